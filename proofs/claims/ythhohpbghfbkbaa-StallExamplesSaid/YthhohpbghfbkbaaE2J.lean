/-
  A part of the proof: contracts of inner functions.
-/
import Derived.Test.YthhohpbghfbkbaaE2C
set_option linter.unusedVariables false
set_option linter.unusedSimpArgs false
namespace Go.Proofs.Ythhohpbghfbkbaa
open Go.Am

theorem shr_nat {s v : Nat} (hv : v < 64) : ((s : Nat) : Int).fdiv (2 ^ min v 64) = ((s / 2 ^ v : Nat) : Int) := by
  rw [Nat.min_eq_left (by omega), Int.fdiv_eq_ediv_of_nonneg _ (by exact Int.le_of_lt (Int.pow_pos (by omega)))]
  norm_cast
theorem and_one {x : Nat} (hx : x < 2 ^ 64) : (((BitVec.ofInt 64 (x : Int) &&& BitVec.ofInt 64 1).toNat : Nat) : Int) = ((x % 2 : Nat) : Int) := by
  have e1 : (BitVec.ofInt 64 (x : Int)).toNat = x := by
    rw [BitVec.ofInt_natCast, BitVec.toNat_ofNat]; omega
  have e2 : (BitVec.ofInt 64 (1 : Int)).toNat = 1 := rfl
  rw [BitVec.toNat_and, e1, e2, Nat.and_one_is_mod]
theorem bit_eq (s v : Nat) : s.testBit v = decide (s / 2 ^ v % 2 = 1) := Nat.testBit_eq_decide_div_mod_eq
theorem div_lt {s v : Nat} (hs : s < 2 ^ 64) : s / 2 ^ v < 2 ^ 64 := Nat.lt_of_le_of_lt (Nat.div_le_self _ _) hs

set_option maxHeartbeats 1000000 in
theorem inB {O : Over} (s v : Nat) (hs : s < 2 ^ 64) (hv2 : v < 2 ^ 64) (h : PT ABlk) (n : Nat) : EvB Try.prog O 37 [.int .u64 s, .int .u64 v] h n fun r h' n' => r = .bool (decide (v < 64) && s.testBit v) ∧ h' = h ∧ n' = n := by
  by_cases hv : v < 64
  · have hv' : (v : Int) < 64 := by omega
    have hv0 : ¬ (v : Int) < 0 := by omega
    have hsh := shr_nat (s := s) hv
    have han := and_one (div_lt (v := v) hs)
    rw [bit_eq, decide_eq_true hv, Bool.true_and]
    by_cases hb : s / 2 ^ v % 2 = 1
    · rw [decide_eq_true hb]
      rw [hb] at han
      have han' : (((BitVec.ofInt 64 ((s / 2 ^ v : Nat) : Int) &&& BitVec.ofInt 64 1).toNat : Nat) : Int) = 1 := han
      clear han
      refine EvB_run (N := 14) Try.func37 rfl rfl fun z hP hO hro hN hQ => ?_
      repeat' first | simp (config := { maxSteps := 2000000 }) (disch := omega) only [go_sem, *, Try.results37, Int.toNat_natCast] | (first | apply EvG_ndec | apply EvC_ndec | apply EvG_dec | apply EvC_dec | apply EvC_nbool | apply EvC_bool | apply EvG_nbool | apply EvG_bool) <;> intro _
      exact congrArg Value.bool (decide_eq_true han')
    · rw [decide_eq_false hb]
      have hb0 : s / 2 ^ v % 2 = 0 := by omega
      rw [hb0] at han
      have han' : (((BitVec.ofInt 64 ((s / 2 ^ v : Nat) : Int) &&& BitVec.ofInt 64 1).toNat : Nat) : Int) = 0 := han
      clear han
      refine EvB_run (N := 14) Try.func37 rfl rfl fun z hP hO hro hN hQ => ?_
      repeat' first | simp (config := { maxSteps := 2000000 }) (disch := omega) only [go_sem, *, Try.results37, Int.toNat_natCast] | (first | apply EvG_ndec | apply EvC_ndec | apply EvG_dec | apply EvC_dec | apply EvC_nbool | apply EvC_bool | apply EvG_nbool | apply EvG_bool) <;> intro _
      exact congrArg Value.bool (decide_eq_false fun q => absurd (han'.symm.trans q) (by omega))
  · have hv' : ¬ (v : Int) < 64 := by omega
    rw [decide_eq_false hv, Bool.false_and]
    refine EvB_run (N := 14) Try.func37 rfl rfl fun z hP hO hro hN hQ => ?_
    repeat' first | simp (config := { maxSteps := 2000000 }) (disch := omega) only [go_sem, *, Try.results37] | (first | apply EvG_ndec | apply EvC_ndec | apply EvG_dec | apply EvC_dec | apply EvC_nbool | apply EvC_bool | apply EvG_nbool | apply EvG_bool) <;> intro _

/-- A set has a value of a bucket. -/
def cov (s k b : Nat) : Bool := (List.range 64).any fun v => s.testBit v && decide (v % k = b)
theorem cov_iff {s k b : Nat} : cov s k b = true ↔ ∃ v, v < 64 ∧ s.testBit v = true ∧ v % k = b := by
  unfold cov
  rw [List.any_eq_true]
  constructor
  · rintro ⟨v, h1, h2⟩
    simp only [Bool.and_eq_true, decide_eq_true_eq] at h2
    exact ⟨v, List.mem_range.1 h1, h2.1, h2.2⟩
  · rintro ⟨v, h1, h2, h3⟩
    exact ⟨v, List.mem_range.2 h1, by simp [h2, h3]⟩
theorem bkts_eq {s k : Nat} (hs : s < 2 ^ 64) (hk : 1 ≤ k) : bkts s k = ((List.range k).filter (cov s k)).map (fun b : Nat => (b : Int)) := by
  refine buckets_eq fun z => ?_
  unfold bks
  rw [List.mem_map]
  constructor
  · rintro ⟨v, h1, rfl⟩
    rw [mem_bitsFrom 64 0 s v hs, Nat.sub_zero] at h1
    refine ⟨v % k, Nat.mod_lt _ (by omega), cov_iff.2 ⟨v, ?_, h1.2, rfl⟩, rfl⟩
    rcases Nat.lt_or_ge v 64 with q | q
    · exact q
    · have := Nat.testBit_lt_two_pow (x := s) (i := v) (Nat.lt_of_lt_of_le hs (Nat.pow_le_pow_right (by omega) q))
      rw [h1.2] at this; simp at this
  · rintro ⟨b, h1, h2, rfl⟩
    obtain ⟨v, h3, h4, h5⟩ := cov_iff.1 h2
    exact ⟨v, by rw [mem_bitsFrom 64 0 s v hs, Nat.sub_zero]; exact ⟨Nat.zero_le _, h4⟩, by rw [h5]⟩

set_option maxHeartbeats 1000000 in
theorem coveredB {O : Over} (o42 : O 37 = fun _ => none) (s k b : Nat) (hs : s < 2 ^ 64) (hk1 : 1 ≤ k) (hk2 : k ≤ 16) (h : PT ABlk) (n : Nat) : EvB Try.prog O 27 [.int .u64 s, .int .i64 k, .int .i64 b] h n fun r h' n' => r = .bool (cov s k b) ∧ h' = h ∧ n' = n := by
  refine EvB_run (N := 23) Try.func27 rfl rfl fun z hP hO hro hN hQ => ?_
  repeat' first | simp (config := { maxSteps := 2000000 }) (disch := omega) only [go_sem, *, Try.results27] | (first | apply EvG_ndec | apply EvC_ndec | apply EvG_dec | apply EvC_dec | apply EvC_nbool | apply EvC_bool | apply EvG_nbool | apply EvG_bool) <;> intro _
  refine ind_loop (fun t m h' n' => ∃ v : Nat, v + t = 64 ∧ m.n = 23 ∧ m.dfs = [] ∧ m.get 0 = .int .u64 s ∧ m.get 1 = .int .i64 k ∧ m.get 2 = .int .i64 b ∧ m.get 7 = .int .i64 v ∧ h' = h ∧ n' = n ∧ ∀ u, u < v → ¬ (s.testBit u = true ∧ u % k = b)) 64 ?_ ?_
  · refine ⟨0, rfl, ?_⟩
    simp (config := { maxSteps := 2000000 }) (disch := omega) only [go_sem, *]
    exact fun u hu => by omega
  · rintro t m h' n' ih ⟨v, hvt, m1, m2, m3, m4, m5, m6, rfl, rfl, q1⟩
    by_cases hv : v < 64
    · have hv' : (v : Int) < 64 := by omega
      have hk0 : ¬ (k : Int) = 0 := by omega
      have hvr : (v : Int).tmod k = ((v % k : Nat) : Int) := rfl
      repeat' first | simp (config := { maxSteps := 2000000 }) (disch := omega) only [go_sem, *, Try.results27] | (first | apply EvG_ndec | apply EvC_ndec | apply EvG_dec | apply EvC_dec | apply EvC_nbool | apply EvC_bool | apply EvG_nbool | apply EvG_bool) <;> intro _
      refine EvQ_call ?_ ?_ (by rw [hP, hO]; exact inB s v hs (by omega) _ _) ?_
      · simp (config := { maxSteps := 2000000 }) (disch := omega) only [go_sem, *]
      · simp (config := { maxSteps := 2000000 }) (disch := omega) only [go_sem, *]
      rintro r h2 n2 ⟨rfl, rfl, rfl⟩
      rw [decide_eq_true hv, Bool.true_and]
      by_cases hb : s.testBit v = true
      · rw [hb]
        by_cases hm : v % k = b
        · have hm' : ((v % k : Nat) : Int) = (b : Int) := by omega
          have hc : cov s k b = true := cov_iff.2 ⟨v, hv, hb, hm⟩
          clear ih q1
          repeat' first | simp (config := { maxSteps := 2000000 }) (disch := omega) only [go_sem, *, Try.results27] | (first | apply EvG_ndec | apply EvC_ndec | apply EvG_dec | apply EvC_dec | apply EvC_nbool | apply EvC_bool | apply EvG_nbool | apply EvG_bool) <;> intro _
        · have hm' : ¬ ((v % k : Nat) : Int) = (b : Int) := by omega
          have q2 : ∀ u, u < v + 1 → ¬ (s.testBit u = true ∧ u % k = b) := fun u hu => by
            by_cases e : u = v
            · subst e; exact fun q => hm q.2
            · exact q1 u (by omega)
          clear q1
          repeat' first | simp (config := { maxSteps := 2000000 }) (disch := omega) only [go_sem, *, Try.results27] | (first | apply EvG_ndec | apply EvC_ndec | apply EvG_dec | apply EvC_dec | apply EvC_nbool | apply EvC_bool | apply EvG_nbool | apply EvG_bool) <;> intro _
          refine ih (t - 1) _ _ _ (by omega) ⟨v + 1, by omega, ?_⟩
          have hci : ((v + 1 : Nat) : Int) = (v : Int) + 1 := by omega
          rw [hci]
          simp (config := { maxSteps := 2000000 }) (disch := omega) only [go_sem, *]
          exact q2
      · have hb' : s.testBit v = false := by simpa using hb
        rw [hb']
        have q2 : ∀ u, u < v + 1 → ¬ (s.testBit u = true ∧ u % k = b) := fun u hu => by
          by_cases e : u = v
          · subst e; exact fun q => hb q.1
          · exact q1 u (by omega)
        clear q1 hb hb'
        repeat' first | simp (config := { maxSteps := 2000000 }) (disch := omega) only [go_sem, *, Try.results27] | (first | apply EvG_ndec | apply EvC_ndec | apply EvG_dec | apply EvC_dec | apply EvC_nbool | apply EvC_bool | apply EvG_nbool | apply EvG_bool) <;> intro _
        refine ih (t - 1) _ _ _ (by omega) ⟨v + 1, by omega, ?_⟩
        have hci : ((v + 1 : Nat) : Int) = (v : Int) + 1 := by omega
        rw [hci]
        simp (config := { maxSteps := 2000000 }) (disch := omega) only [go_sem, *]
        exact q2
    · have hv' : ¬ (v : Int) < 64 := by omega
      have hc : cov s k b = false := by
        cases hcc : cov s k b with
        | false => rfl
        | true =>
          obtain ⟨u, h1, h2, h3⟩ := cov_iff.1 hcc
          exact absurd ⟨h2, h3⟩ (q1 u (by omega))
      clear q1 ih
      repeat' first | simp (config := { maxSteps := 2000000 }) (disch := omega) only [go_sem, *, Try.results27] | (first | apply EvG_ndec | apply EvC_ndec | apply EvG_dec | apply EvC_dec | apply EvC_nbool | apply EvC_bool | apply EvG_nbool | apply EvG_bool) <;> intro _
end Go.Proofs.Ythhohpbghfbkbaa

set_option linter.unusedVariables false
set_option linter.unusedSimpArgs false
namespace Go.Proofs.Ythhohpbghfbkbaa
open Go.Am

/-- A valid engine. -/
def vld (kd k : Int) : Prop := (kd = 3 ∧ 1 ≤ k ∧ k ≤ 16) ∨ ((kd = 1 ∨ kd = 2) ∧ k = 0)
instance (kd k : Int) : Decidable (vld kd k) := inferInstanceAs (Decidable (_ ∨ _))
def cnt (s k : Nat) : Nat := ((List.range k).filter (cov s k)).length

theorem validB {O : Over} (kd k : Int) (h : PT ABlk) (n : Nat) : EvB Try.prog O 26 [.int .u8 kd, .int .i64 k] h n fun r h' n' => r = .bool (decide (vld kd k)) ∧ h' = h ∧ n' = n := by
  by_cases h3 : kd = 3
  · subst h3
    by_cases a : 1 ≤ k
    · by_cases b : k ≤ 16
      · rw [decide_eq_true (show vld 3 k from .inl ⟨rfl, a, b⟩)]
        refine EvB_run (N := 23) Try.func26 rfl rfl fun z hP hO hro hN hQ => ?_
        repeat' first | simp (config := { maxSteps := 2000000 }) (disch := omega) only [go_sem, *, Try.results26] | (first | apply EvG_ndec | apply EvC_ndec | apply EvG_dec | apply EvC_dec | apply EvC_nbool | apply EvC_bool | apply EvG_nbool | apply EvG_bool) <;> intro _
      · rw [decide_eq_false (show ¬ vld 3 k by unfold vld; omega)]
        refine EvB_run (N := 23) Try.func26 rfl rfl fun z hP hO hro hN hQ => ?_
        repeat' first | simp (config := { maxSteps := 2000000 }) (disch := omega) only [go_sem, *, Try.results26] | (first | apply EvG_ndec | apply EvC_ndec | apply EvG_dec | apply EvC_dec | apply EvC_nbool | apply EvC_bool | apply EvG_nbool | apply EvG_bool) <;> intro _
    · rw [decide_eq_false (show ¬ vld 3 k by unfold vld; omega)]
      refine EvB_run (N := 23) Try.func26 rfl rfl fun z hP hO hro hN hQ => ?_
      repeat' first | simp (config := { maxSteps := 2000000 }) (disch := omega) only [go_sem, *, Try.results26] | (first | apply EvG_ndec | apply EvC_ndec | apply EvG_dec | apply EvC_dec | apply EvC_nbool | apply EvC_bool | apply EvG_nbool | apply EvG_bool) <;> intro _
  · by_cases h1 : kd = 1
    · subst h1
      by_cases a : k = 0
      · rw [decide_eq_true (show vld 1 k from .inr ⟨.inl rfl, a⟩)]
        refine EvB_run (N := 23) Try.func26 rfl rfl fun z hP hO hro hN hQ => ?_
        repeat' first | simp (config := { maxSteps := 2000000 }) (disch := omega) only [go_sem, *, Try.results26] | (first | apply EvG_ndec | apply EvC_ndec | apply EvG_dec | apply EvC_dec | apply EvC_nbool | apply EvC_bool | apply EvG_nbool | apply EvG_bool) <;> intro _
      · rw [decide_eq_false (show ¬ vld 1 k by unfold vld; omega)]
        refine EvB_run (N := 23) Try.func26 rfl rfl fun z hP hO hro hN hQ => ?_
        repeat' first | simp (config := { maxSteps := 2000000 }) (disch := omega) only [go_sem, *, Try.results26] | (first | apply EvG_ndec | apply EvC_ndec | apply EvG_dec | apply EvC_dec | apply EvC_nbool | apply EvC_bool | apply EvG_nbool | apply EvG_bool) <;> intro _
    · by_cases h2 : kd = 2
      · subst h2
        by_cases a : k = 0
        · rw [decide_eq_true (show vld 2 k from .inr ⟨.inr rfl, a⟩)]
          refine EvB_run (N := 23) Try.func26 rfl rfl fun z hP hO hro hN hQ => ?_
          repeat' first | simp (config := { maxSteps := 2000000 }) (disch := omega) only [go_sem, *, Try.results26] | (first | apply EvG_ndec | apply EvC_ndec | apply EvG_dec | apply EvC_dec | apply EvC_nbool | apply EvC_bool | apply EvG_nbool | apply EvG_bool) <;> intro _
        · rw [decide_eq_false (show ¬ vld 2 k by unfold vld; omega)]
          refine EvB_run (N := 23) Try.func26 rfl rfl fun z hP hO hro hN hQ => ?_
          repeat' first | simp (config := { maxSteps := 2000000 }) (disch := omega) only [go_sem, *, Try.results26] | (first | apply EvG_ndec | apply EvC_ndec | apply EvG_dec | apply EvC_dec | apply EvC_nbool | apply EvC_bool | apply EvG_nbool | apply EvG_bool) <;> intro _
      · rw [decide_eq_false (show ¬ vld kd k by unfold vld; omega)]
        refine EvB_run (N := 23) Try.func26 rfl rfl fun z hP hO hro hN hQ => ?_
        repeat' first | simp (config := { maxSteps := 2000000 }) (disch := omega) only [go_sem, *, Try.results26] | (first | apply EvG_ndec | apply EvC_ndec | apply EvG_dec | apply EvC_dec | apply EvC_nbool | apply EvC_bool | apply EvG_nbool | apply EvG_bool) <;> intro _

/-- Whether a value concerns a wait. -/
def conV (kd : Int) (k s v : Nat) : Bool := if kd = 1 then true else if kd = 2 then s.testBit v else cov s k (v % k)
theorem refConB {O : Over} (o26 : O 27 = fun _ => none) (o42 : O 37 = fun _ => none) (kd : Int) (k s v : Nat) (hs : s < 2 ^ 64) (hv : v < 64) (hk : vld kd k) (h : PT ABlk) (n : Nat) : EvB Try.prog O 29 [.int .u8 kd, .int .i64 k, .int .u64 s, .int .u64 v] h n fun r h' n' => r = .bool (conV kd k s v) ∧ h' = h ∧ n' = n := by
  unfold conV
  by_cases h1 : kd = 1
  · subst h1
    refine EvB_run (N := 24) Try.func29 rfl rfl fun z hP hO hro hN hQ => ?_
    repeat' first | simp (config := { maxSteps := 2000000 }) (disch := omega) only [go_sem, *, Try.results29] | (first | apply EvG_ndec | apply EvC_ndec | apply EvG_dec | apply EvC_dec | apply EvC_nbool | apply EvC_bool | apply EvG_nbool | apply EvG_bool) <;> intro _
  · rw [if_neg h1]
    by_cases h2 : kd = 2
    · subst h2
      rw [if_pos rfl]
      refine EvB_run (N := 24) Try.func29 rfl rfl fun z hP hO hro hN hQ => ?_
      repeat' first | simp (config := { maxSteps := 2000000 }) (disch := omega) only [go_sem, *, Try.results29] | (first | apply EvG_ndec | apply EvC_ndec | apply EvG_dec | apply EvC_dec | apply EvC_nbool | apply EvC_bool | apply EvG_nbool | apply EvG_bool) <;> intro _
      refine EvQ_call ?_ ?_ (by rw [hP, hO]; exact inB s v hs (by omega) _ _) ?_
      · simp (config := { maxSteps := 2000000 }) (disch := omega) only [go_sem, *]
      · simp (config := { maxSteps := 2000000 }) (disch := omega) only [go_sem, *]
      rintro r h2 n2 ⟨rfl, rfl, rfl⟩
      rw [decide_eq_true hv, Bool.true_and]
      repeat' first | simp (config := { maxSteps := 2000000 }) (disch := omega) only [go_sem, *, Try.results29] | (first | apply EvG_ndec | apply EvC_ndec | apply EvG_dec | apply EvC_dec | apply EvC_nbool | apply EvC_bool | apply EvG_nbool | apply EvG_bool) <;> intro _
    · rw [if_neg h2]
      have hkk : kd = 3 ∧ 1 ≤ k ∧ k ≤ 16 := by unfold vld at hk; omega
      obtain ⟨rfl, k1, k2⟩ := hkk
      have hk0 : ¬ (k : Int) = 0 := by omega
      have hvr : (v : Int).tmod k = ((v % k : Nat) : Int) := rfl
      refine EvB_run (N := 24) Try.func29 rfl rfl fun z hP hO hro hN hQ => ?_
      repeat' first | simp (config := { maxSteps := 2000000 }) (disch := omega) only [go_sem, *, Try.results29] | (first | apply EvG_ndec | apply EvC_ndec | apply EvG_dec | apply EvC_dec | apply EvC_nbool | apply EvC_bool | apply EvG_nbool | apply EvG_bool) <;> intro _
      refine EvQ_call ?_ ?_ (by rw [hP, hO]; exact coveredB o42 s k (v % k) hs k1 k2 _ _) ?_
      · simp (config := { maxSteps := 2000000 }) (disch := omega) only [go_sem, *]
      · simp (config := { maxSteps := 2000000 }) (disch := omega) only [go_sem, *]
      rintro r h2 n2 ⟨rfl, rfl, rfl⟩
      repeat' first | simp (config := { maxSteps := 2000000 }) (disch := omega) only [go_sem, *, Try.results29] | (first | apply EvG_ndec | apply EvC_ndec | apply EvG_dec | apply EvC_dec | apply EvC_nbool | apply EvC_bool | apply EvG_nbool | apply EvG_bool) <;> intro _
def consV (kd k : Int) (s v : Nat) : Value := if ¬ vld kd k ∨ s = 0 ∨ 64 ≤ v then .tuple ⟨[.bool false, .int .i64 2]⟩ else .tuple ⟨[.bool (conV kd k.toNat s v), .int .i64 0]⟩
theorem refConsB {O : Over} (o25 : O 26 = fun _ => none) (o26 : O 27 = fun _ => none) (o28 : O 29 = fun _ => none) (o42 : O 37 = fun _ => none) (kd k : Int) (s v : Nat) (hs : s < 2 ^ 64) (hv : v < 2 ^ 64) (h : PT ABlk) (n : Nat) :
    EvB Try.prog O 12 [.int .u8 kd, .int .i64 k, .int .u64 s, .int .u64 v] h n fun r h' n' => r = consV kd k s v ∧ h' = h ∧ n' = n := by
  unfold consV
  refine EvB_run (N := 27) Try.func12 rfl rfl fun z hP hO hro hN hQ => ?_
  repeat' first | simp (config := { maxSteps := 2000000 }) (disch := omega) only [go_sem, *, Try.results12] | (first | apply EvG_ndec | apply EvC_ndec | apply EvG_dec | apply EvC_dec | apply EvC_nbool | apply EvC_bool | apply EvG_nbool | apply EvG_bool) <;> intro _
  refine EvQ_call ?_ ?_ (by rw [hP, hO]; exact validB kd k _ _) ?_
  · simp (config := { maxSteps := 2000000 }) (disch := omega) only [go_sem, *]
  · simp (config := { maxSteps := 2000000 }) (disch := omega) only [go_sem, *]
  rintro r h2 n2 ⟨rfl, rfl, rfl⟩
  by_cases a : vld kd k
  · rw [decide_eq_true a]
    by_cases b : s = 0
    · subst b
      rw [if_pos (.inr (.inl rfl))] at hQ
      repeat' first | simp (config := { maxSteps := 2000000 }) (disch := omega) only [go_sem, *, Try.results12] | (first | apply EvG_ndec | apply EvC_ndec | apply EvG_dec | apply EvC_dec | apply EvC_nbool | apply EvC_bool | apply EvG_nbool | apply EvG_bool) <;> intro _
    · have b' : ¬ (s : Int) = 0 := by omega
      by_cases c : 64 ≤ v
      · have c' : (64 : Int) ≤ v := by omega
        rw [if_pos (.inr (.inr c))] at hQ
        repeat' first | simp (config := { maxSteps := 2000000 }) (disch := omega) only [go_sem, *, Try.results12] | (first | apply EvG_ndec | apply EvC_ndec | apply EvG_dec | apply EvC_dec | apply EvC_nbool | apply EvC_bool | apply EvG_nbool | apply EvG_bool) <;> intro _
      · have c' : ¬ (64 : Int) ≤ v := by omega
        rw [if_neg (by simp [a, b, c])] at hQ
        obtain ⟨kn, rfl⟩ : ∃ kn : Nat, k = kn := ⟨k.toNat, by unfold vld at a; omega⟩
        rw [Int.toNat_natCast] at hQ
        repeat' first | simp (config := { maxSteps := 2000000 }) (disch := omega) only [go_sem, *, Try.results12] | (first | apply EvG_ndec | apply EvC_ndec | apply EvG_dec | apply EvC_dec | apply EvC_nbool | apply EvC_bool | apply EvG_nbool | apply EvG_bool) <;> intro _
        refine EvQ_call ?_ ?_ (by rw [hP, hO]; exact refConB o26 o42 kd kn s v hs (by omega) a _ _) ?_
        · simp (config := { maxSteps := 2000000 }) (disch := omega) only [go_sem, *]
        · simp (config := { maxSteps := 2000000 }) (disch := omega) only [go_sem, *]
        rintro r h2 n2 ⟨rfl, rfl, rfl⟩
        repeat' first | simp (config := { maxSteps := 2000000 }) (disch := omega) only [go_sem, *, Try.results12] | (first | apply EvG_ndec | apply EvC_ndec | apply EvG_dec | apply EvC_dec | apply EvC_nbool | apply EvC_bool | apply EvG_nbool | apply EvG_bool) <;> intro _
  · rw [decide_eq_false a]
    rw [if_pos (.inl a)] at hQ
    repeat' first | simp (config := { maxSteps := 2000000 }) (disch := omega) only [go_sem, *, Try.results12] | (first | apply EvG_ndec | apply EvC_ndec | apply EvG_dec | apply EvC_dec | apply EvC_nbool | apply EvC_bool | apply EvG_nbool | apply EvG_bool) <;> intro _
end Go.Proofs.Ythhohpbghfbkbaa

set_option linter.unusedVariables false
set_option linter.unusedSimpArgs false
namespace Go.Proofs.Ythhohpbghfbkbaa
open Go.Am

def bndA (kd sl : Int) (k s : Nat) : Int := if kd = 1 then sl else if kd = 2 then 3 * sl else 6 * (cnt s k : Int)
def bndV (kd sl k : Int) (s : Nat) : Value := if ¬ vld kd k ∨ s = 0 ∨ sl < 1 ∨ 64 < sl then .tuple ⟨[.int .i64 0, .int .i64 2]⟩ else .tuple ⟨[.int .i64 (bndA kd sl k.toNat s), .int .i64 0]⟩
theorem filter_range_succ (p : Nat → Bool) (b : Nat) : ((List.range (b + 1)).filter p).length = ((List.range b).filter p).length + (if p b = true then 1 else 0) := by
  rw [List.range_succ, List.filter_append, List.length_append]
  congr 1
  by_cases h : p b = true
  · simp [h]
  · simp [h]

set_option maxHeartbeats 1000000 in
theorem refBndB {O : Over} (o25 : O 26 = fun _ => none) (o26 : O 27 = fun _ => none) (o42 : O 37 = fun _ => none) (kd sl k : Int) (s : Nat) (hs : s < 2 ^ 64) (h : PT ABlk) (n : Nat) :
    EvB Try.prog O 10 [.int .u8 kd, .int .i64 sl, .int .i64 k, .int .u64 s] h n fun r h' n' => r = bndV kd sl k s ∧ h' = h ∧ n' = n := by
  unfold bndV
  refine EvB_run (N := 48) Try.func10 rfl rfl fun z hP hO hro hN hQ => ?_
  repeat' first | simp (config := { maxSteps := 2000000 }) (disch := omega) only [go_sem, *, Try.results10] | (first | apply EvG_ndec | apply EvC_ndec | apply EvG_dec | apply EvC_dec | apply EvC_nbool | apply EvC_bool | apply EvG_nbool | apply EvG_bool) <;> intro _
  refine EvQ_call ?_ ?_ (by rw [hP, hO]; exact validB kd k _ _) ?_
  · simp (config := { maxSteps := 2000000 }) (disch := omega) only [go_sem, *]
  · simp (config := { maxSteps := 2000000 }) (disch := omega) only [go_sem, *]
  rintro r h2 n2 ⟨rfl, rfl, rfl⟩
  by_cases a : vld kd k
  · rw [decide_eq_true a]
    by_cases b : s = 0
    · subst b
      rw [if_pos (.inr (.inl rfl))] at hQ
      repeat' first | simp (config := { maxSteps := 2000000 }) (disch := omega) only [go_sem, *, Try.results10] | (first | apply EvG_ndec | apply EvC_ndec | apply EvG_dec | apply EvC_dec | apply EvC_nbool | apply EvC_bool | apply EvG_nbool | apply EvG_bool) <;> intro _
    · have b' : ¬ (s : Int) = 0 := by omega
      by_cases c : sl < 1
      · rw [if_pos (.inr (.inr (.inl c)))] at hQ
        repeat' first | simp (config := { maxSteps := 2000000 }) (disch := omega) only [go_sem, *, Try.results10] | (first | apply EvG_ndec | apply EvC_ndec | apply EvG_dec | apply EvC_dec | apply EvC_nbool | apply EvC_bool | apply EvG_nbool | apply EvG_bool) <;> intro _
      · by_cases d : 64 < sl
        · rw [if_pos (.inr (.inr (.inr d)))] at hQ
          repeat' first | simp (config := { maxSteps := 2000000 }) (disch := omega) only [go_sem, *, Try.results10] | (first | apply EvG_ndec | apply EvC_ndec | apply EvG_dec | apply EvC_dec | apply EvC_nbool | apply EvC_bool | apply EvG_nbool | apply EvG_bool) <;> intro _
        · rw [if_neg (by simp only [a, b, c, d]; simp)] at hQ
          unfold bndA at hQ
          obtain ⟨kn, rfl⟩ : ∃ kn : Nat, k = kn := ⟨k.toNat, by unfold vld at a; omega⟩
          rw [Int.toNat_natCast] at hQ
          by_cases e1 : kd = 1
          · subst e1
            rw [if_pos rfl] at hQ
            repeat' first | simp (config := { maxSteps := 2000000 }) (disch := omega) only [go_sem, *, Try.results10] | (first | apply EvG_ndec | apply EvC_ndec | apply EvG_dec | apply EvC_dec | apply EvC_nbool | apply EvC_bool | apply EvG_nbool | apply EvG_bool) <;> intro _
          · rw [if_neg e1] at hQ
            by_cases e2 : kd = 2
            · subst e2
              rw [if_pos rfl] at hQ
              repeat' first | simp (config := { maxSteps := 2000000 }) (disch := omega) only [go_sem, *, Try.results10] | (first | apply EvG_ndec | apply EvC_ndec | apply EvG_dec | apply EvC_dec | apply EvC_nbool | apply EvC_bool | apply EvG_nbool | apply EvG_bool) <;> intro _
            · rw [if_neg e2] at hQ
              have hkk : kd = 3 ∧ 1 ≤ kn ∧ kn ≤ 16 := by unfold vld at a; omega
              obtain ⟨rfl, k1, k2⟩ := hkk
              unfold cnt at hQ
              repeat' first | simp (config := { maxSteps := 2000000 }) (disch := omega) only [go_sem, *, Try.results10] | (first | apply EvG_ndec | apply EvC_ndec | apply EvG_dec | apply EvC_dec | apply EvC_nbool | apply EvC_bool | apply EvG_nbool | apply EvG_bool) <;> intro _
              refine ind_loop (fun t m h' n' => ∃ b : Nat, b + t = kn ∧ m.n = 48 ∧ m.dfs = [] ∧ m.get 2 = .int .i64 kn ∧ m.get 3 = .int .u64 s ∧ m.get 10 = .int .i64 (6 * (((List.range b).filter (cov s kn)).length : Int)) ∧ m.get 11 = .int .i64 b ∧ h' = h2 ∧ n' = n2) kn ?_ ?_
              · refine ⟨0, by omega, ?_⟩
                simp (config := { maxSteps := 2000000 }) (disch := omega) only [go_sem, *]
                simp
              · rintro t m h' n' ih ⟨b, hbt, m1, m2, m3, m4, m5, m6, rfl, rfl⟩
                have hlf : ((List.range b).filter (cov s kn)).length ≤ b := by
                  have := List.length_filter_le (cov s kn) (List.range b)
                  rwa [List.length_range] at this
                have hfs := filter_range_succ (cov s kn) b
                rcases Nat.lt_or_ge b kn with hlt | hge
                · have e7 : (b : Int) < kn := by omega
                  repeat' first | simp (config := { maxSteps := 2000000 }) (disch := omega) only [go_sem, *, Try.results10] | (first | apply EvG_ndec | apply EvC_ndec | apply EvG_dec | apply EvC_dec | apply EvC_nbool | apply EvC_bool | apply EvG_nbool | apply EvG_bool) <;> intro _
                  refine EvQ_call ?_ ?_ (by rw [hP, hO]; exact coveredB o42 s kn b hs k1 k2 _ _) ?_
                  · simp (config := { maxSteps := 2000000 }) (disch := omega) only [go_sem, *]
                  · simp (config := { maxSteps := 2000000 }) (disch := omega) only [go_sem, *]
                  rintro r h3 n3 ⟨rfl, rfl, rfl⟩
                  have hci : ((b + 1 : Nat) : Int) = (b : Int) + 1 := by omega
                  by_cases hc : cov s kn b = true
                  · rw [hc]
                    rw [if_pos hc] at hfs
                    have hfi : 6 * ((((List.range (b + 1)).filter (cov s kn)).length : Nat) : Int) = 6 * (((List.range b).filter (cov s kn)).length : Int) + 6 := by omega
                    clear hfs
                    repeat' first | simp (config := { maxSteps := 2000000 }) (disch := omega) only [go_sem, *, Try.results10] | (first | apply EvG_ndec | apply EvC_ndec | apply EvG_dec | apply EvC_dec | apply EvC_nbool | apply EvC_bool | apply EvG_nbool | apply EvG_bool) <;> intro _
                    refine ih (t - 1) _ _ _ (by omega) ⟨b + 1, by omega, ?_⟩
                    rw [hci, hfi]
                    simp (config := { maxSteps := 2000000 }) (disch := omega) only [go_sem, *]
                  · have hc' : cov s kn b = false := by simpa using hc
                    rw [hc']
                    rw [if_neg hc] at hfs
                    have hfi : 6 * ((((List.range (b + 1)).filter (cov s kn)).length : Nat) : Int) = 6 * (((List.range b).filter (cov s kn)).length : Int) := by omega
                    clear hfs hc hc'
                    repeat' first | simp (config := { maxSteps := 2000000 }) (disch := omega) only [go_sem, *, Try.results10] | (first | apply EvG_ndec | apply EvC_ndec | apply EvG_dec | apply EvC_dec | apply EvC_nbool | apply EvC_bool | apply EvG_nbool | apply EvG_bool) <;> intro _
                    refine ih (t - 1) _ _ _ (by omega) ⟨b + 1, by omega, ?_⟩
                    rw [hci, hfi]
                    simp (config := { maxSteps := 2000000 }) (disch := omega) only [go_sem, *]
                · obtain rfl : b = kn := by omega
                  have e7 : ¬ (b : Int) < b := by omega
                  clear ih hfs
                  repeat' first | simp (config := { maxSteps := 2000000 }) (disch := omega) only [go_sem, *, Try.results10] | (first | apply EvG_ndec | apply EvC_ndec | apply EvG_dec | apply EvC_dec | apply EvC_nbool | apply EvC_bool | apply EvG_nbool | apply EvG_bool) <;> intro _
  · rw [decide_eq_false a]
    rw [if_pos (.inl a)] at hQ
    repeat' first | simp (config := { maxSteps := 2000000 }) (disch := omega) only [go_sem, *, Try.results10] | (first | apply EvG_ndec | apply EvC_ndec | apply EvG_dec | apply EvC_dec | apply EvC_nbool | apply EvC_bool | apply EvG_nbool | apply EvG_bool) <;> intro _
end Go.Proofs.Ythhohpbghfbkbaa

set_option linter.unusedVariables false
set_option linter.unusedSimpArgs false
namespace Go.Proofs.Ythhohpbghfbkbaa
open Go.Am

def engC (kd k : Int) : Value := .agg ⟨[.int .u8 kd, .int .i64 k]⟩
def madeV (kd k : Int) (s : Nat) : Value := if ¬ vld kd k ∨ s = 0 then .tuple ⟨[engC 0 0, .int .i64 2]⟩ else .tuple ⟨[engC kd k, .int .i64 0]⟩
set_option maxHeartbeats 1000000 in
theorem madeB {O : Over} (kd k : Int) (s : Nat) (h : PT ABlk) (n : Nat) (hW : WfH h n) : EvB Try.prog O 22 [.int .u8 kd, .int .i64 k, .int .u64 s] h n fun r h' n' => r = madeV kd k s ∧ Kept h h' := by
  unfold madeV engC
  by_cases hs : s = 0
  · subst hs
    rw [if_pos (.inr rfl)]
    by_cases h1 : kd = 1 <;> by_cases h2 : kd = 2 <;> by_cases h3 : kd = 3 <;> by_cases a : k = 0 <;> by_cases b : 1 ≤ k <;> by_cases c : k ≤ 16 <;> first | (exfalso; omega) | skip
    all_goals refine EvB_run (N := 41) Try.func22 rfl rfl fun z hP hO hro hN hQ => ?_
    all_goals repeat' first | simp (config := { maxSteps := 2000000 }) (disch := omega) only [go_sem, *, Try.results22] | (first | apply EvG_ndec | apply EvC_ndec | apply EvG_dec | apply EvC_dec | apply EvC_nbool | apply EvC_bool | apply EvG_nbool | apply EvG_bool) <;> intro _
    all_goals exact Kept.set' hW (by omega) (hW.kept (Nat.le_refl _))
  · have hs' : ¬ (s : Int) = 0 := by omega
    by_cases hv : vld kd k
    · rw [if_neg (by simp [hv, hs])]
      have hc : (kd = 3 ∧ 1 ≤ k ∧ k ≤ 16) ∨ (kd = 1 ∧ k = 0) ∨ (kd = 2 ∧ k = 0) := by unfold vld at hv; omega
      clear hv
      rcases hc with ⟨rfl, a, b⟩ | ⟨rfl, rfl⟩ | ⟨rfl, rfl⟩
      all_goals refine EvB_run (N := 41) Try.func22 rfl rfl fun z hP hO hro hN hQ => ?_
      all_goals repeat' first | simp (config := { maxSteps := 2000000 }) (disch := omega) only [go_sem, *, Try.results22] | (first | apply EvG_ndec | apply EvC_ndec | apply EvG_dec | apply EvC_dec | apply EvC_nbool | apply EvC_bool | apply EvG_nbool | apply EvG_bool) <;> intro _
      all_goals exact Kept.set' hW (by omega) (hW.kept (Nat.le_refl _))
    · rw [if_pos (.inl hv)]
      unfold vld at hv
      by_cases h1 : kd = 1 <;> by_cases h2 : kd = 2 <;> by_cases h3 : kd = 3 <;> by_cases a : k = 0 <;> by_cases b : 1 ≤ k <;> by_cases c : k ≤ 16 <;> first | (exfalso; omega) | skip
      all_goals clear hv
      all_goals refine EvB_run (N := 41) Try.func22 rfl rfl fun z hP hO hro hN hQ => ?_
      all_goals repeat' first | simp (config := { maxSteps := 2000000 }) (disch := omega) only [go_sem, *, Try.results22] | (first | apply EvG_ndec | apply EvC_ndec | apply EvG_dec | apply EvC_dec | apply EvC_nbool | apply EvC_bool | apply EvG_nbool | apply EvG_bool) <;> intro _
      all_goals exact Kept.set' hW (by omega) (hW.kept (Nat.le_refl _))
theorem fullB {O : Over} (kd k sl : Int) (s : Nat) (h : PT ABlk) (n : Nat) (hW : WfH h n) : EvB Try.prog O 23 [engC kd k, .int .i64 sl, .int .u64 s] h n fun r h' n' => r = .int .i64 sl ∧ Kept h h' := by
  unfold engC
  refine EvB_run (N := 8) Try.func23 rfl rfl fun z hP hO hro hN hQ => ?_
  repeat' first | simp (config := { maxSteps := 2000000 }) (disch := omega) only [go_sem, *, Try.results23] | (first | apply EvG_ndec | apply EvC_ndec | apply EvG_dec | apply EvC_dec | apply EvC_nbool | apply EvC_bool | apply EvG_nbool | apply EvG_bool) <;> intro _
  all_goals exact hW.kept (Nat.le_refl _)
theorem eachB {O : Over} (kd k sl : Int) (s : Nat) (h1 : 1 ≤ sl) (h2 : sl ≤ 64) (h : PT ABlk) (n : Nat) (hW : WfH h n) : EvB Try.prog O 24 [engC kd k, .int .i64 sl, .int .u64 s] h n fun r h' n' => r = .int .i64 (3 * sl) ∧ Kept h h' := by
  unfold engC
  refine EvB_run (N := 9) Try.func24 rfl rfl fun z hP hO hro hN hQ => ?_
  repeat' first | simp (config := { maxSteps := 2000000 }) (disch := omega) only [go_sem, *, Try.results24] | (first | apply EvG_ndec | apply EvC_ndec | apply EvG_dec | apply EvC_dec | apply EvC_nbool | apply EvC_bool | apply EvG_nbool | apply EvG_bool) <;> intro _
  all_goals exact hW.kept (Nat.le_refl _)
theorem bkts_length {s k : Nat} (hs : s < 2 ^ 64) (hk : 1 ≤ k) : (bkts s k).length = cnt s k := by rw [bkts_eq hs hk, List.length_map]; rfl
theorem gateB {O : Over} (o50 : O 45 = sortS) (o41 : O 36 = fun _ => none) (o48 : O 43 = fun _ => none) (o49 : O 44 = fun _ => none) (o51 : O 46 = fun _ => none) (o58 : O 55 = fun _ => none) (kd sl : Int) (s k : Nat) (hs : s < 2 ^ 64) (hk1 : 1 ≤ k) (hk2 : k ≤ 16) (h : PT ABlk) (n : Nat) (hW : WfH h n) :
    EvB Try.prog O 25 [engC kd k, .int .i64 sl, .int .u64 s] h n fun r h' n' => r = .int .i64 (6 * (cnt s k : Int)) ∧ Kept h h' := by
  unfold engC
  have hlf : cnt s k ≤ k := by
    unfold cnt
    have := List.length_filter_le (cov s k) (List.range k)
    rwa [List.length_range] at this
  have hbl := bkts_length hs hk1
  have hW1 := hW.set (i := n) (b := some (.cells (PT.ofList .leaf 0 [.int .u8 kd, .int .i64 k]) false)) (Nat.le_succ _) (Nat.lt_succ_self _)
  refine EvB_run (N := 19) Try.func25 rfl rfl fun z hP hO hro hN hQ => ?_
  repeat' first | simp (config := { maxSteps := 2000000 }) (disch := omega) only [go_sem, *, Try.results25] | (first | apply EvG_ndec | apply EvC_ndec | apply EvG_dec | apply EvC_dec | apply EvC_nbool | apply EvC_bool | apply EvG_nbool | apply EvG_bool) <;> intro _
  refine EvQ_call ?_ ?_ (by rw [hP, hO]; exact buckets o50 o48 o49 o51 o58 s k hs hk1 hk2 _ _ hW1) ?_
  · simp (config := { maxSteps := 2000000 }) (disch := omega) only [go_sem, *]
  · simp (config := { maxSteps := 2000000 }) (disch := omega) only [go_sem, *]
  rintro r h2 n2 ⟨sl2, rfl, hI, hk⟩
  obtain ⟨a, c, rfl, -⟩ := hI.len
  rw [hbl]
  clear hbl hI
  repeat' first | simp (config := { maxSteps := 2000000 }) (disch := omega) only [go_sem, *, Try.results25] | (first | apply EvG_ndec | apply EvC_ndec | apply EvG_dec | apply EvC_dec | apply EvC_nbool | apply EvC_bool | apply EvG_nbool | apply EvG_bool) <;> intro _
  all_goals exact (hW.kept (Nat.le_refl _)).trans hk
end Go.Proofs.Ythhohpbghfbkbaa

set_option linter.unusedVariables false
set_option linter.unusedSimpArgs false
namespace Go.Proofs.Ythhohpbghfbkbaa
open Go.Am

set_option maxRecDepth 100000 in
set_option maxHeartbeats 1000000 in
theorem bndB {O : Over} (o50 : O 45 = sortS) (o21 : O 22 = fun _ => none) (o22 : O 23 = fun _ => none) (o23 : O 24 = fun _ => none) (o24 : O 25 = fun _ => none) (o41 : O 36 = fun _ => none) (o48 : O 43 = fun _ => none) (o49 : O 44 = fun _ => none) (o51 : O 46 = fun _ => none) (o58 : O 55 = fun _ => none) (kd sl k : Int) (s : Nat) (hs : s < 2 ^ 64) (h : PT ABlk) (n : Nat) (hW : WfH h n) :
    EvB Try.prog O 9 [.int .u8 kd, .int .i64 sl, .int .i64 k, .int .u64 s] h n fun r h' n' => r = bndV kd sl k s ∧ Kept h h' := by
  unfold bndV
  refine EvB_run (N := 42) Try.func9 rfl rfl fun z hP hO hro hN hQ => ?_
  repeat' first | simp (config := { maxSteps := 2000000 }) (disch := omega) only [go_sem, *, Try.results9] | (first | apply EvG_ndec | apply EvC_ndec | apply EvG_dec | apply EvC_dec | apply EvC_nbool | apply EvC_bool | apply EvG_nbool | apply EvG_bool) <;> intro _
  refine EvQ_call ?_ ?_ (by rw [hP, hO]; exact (madeB kd k s _ _ hW).wf hW) ?_
  · simp (config := { maxSteps := 2000000 }) (disch := omega) only [go_sem, *]
  · simp (config := { maxSteps := 2000000 }) (disch := omega) only [go_sem, *]
  rintro r h2 n2 ⟨⟨rfl, hk2⟩, hn2, hW2⟩
  unfold madeV engC
  have hkk : ∀ b, Kept h (PT.set h2 n2 b) := fun b => Kept.set' hW hn2 hk2
  have hk3 : ∀ b c, Kept h (PT.set (PT.set h2 n2 b) n2 c) := fun b c => Kept.set' hW hn2 (hkk b)
  by_cases a : vld kd k
  · by_cases b : s = 0
    · subst b
      rw [if_pos (.inr rfl)]
      rw [if_pos (.inr (.inl rfl))] at hQ
      clear hk2
      repeat' first | simp (config := { maxSteps := 2000000 }) (disch := omega) only [go_sem, *, Try.results9] | (first | apply EvG_ndec | apply EvC_ndec | apply EvG_dec | apply EvC_dec | apply EvC_nbool | apply EvC_bool | apply EvG_nbool | apply EvG_bool) <;> intro _
    · rw [if_neg (by simp [a, b])]
      by_cases c : sl < 1
      · rw [if_pos (.inr (.inr (.inl c)))] at hQ
        clear hk2
        repeat' first | simp (config := { maxSteps := 2000000 }) (disch := omega) only [go_sem, *, Try.results9] | (first | apply EvG_ndec | apply EvC_ndec | apply EvG_dec | apply EvC_dec | apply EvC_nbool | apply EvC_bool | apply EvG_nbool | apply EvG_bool) <;> intro _
      · by_cases d : 64 < sl
        · rw [if_pos (.inr (.inr (.inr d)))] at hQ
          clear hk2
          repeat' first | simp (config := { maxSteps := 2000000 }) (disch := omega) only [go_sem, *, Try.results9] | (first | apply EvG_ndec | apply EvC_ndec | apply EvG_dec | apply EvC_dec | apply EvC_nbool | apply EvC_bool | apply EvG_nbool | apply EvG_bool) <;> intro _
        · rw [if_neg (by simp only [a, b, c, d]; simp)] at hQ
          unfold bndA at hQ
          clear hkk hk3
          by_cases e1 : kd = 1
          · subst e1
            rw [if_pos rfl] at hQ
            repeat' first | simp (config := { maxSteps := 2000000 }) (disch := omega) only [go_sem, *, Try.results9] | (first | apply EvG_ndec | apply EvC_ndec | apply EvG_dec | apply EvC_dec | apply EvC_nbool | apply EvC_bool | apply EvG_nbool | apply EvG_bool) <;> intro _
            refine EvQ_call ?_ ?_ (by rw [hP, hO]; exact fullB 1 k sl s _ _ (by (repeat refine WfH.set' (by omega) ?_); first | assumption | exact WfH.mono (by assumption) (by omega))) ?_
            · simp (config := { maxSteps := 2000000 }) (disch := omega) only [go_sem, *]
            · simp (config := { maxSteps := 2000000 }) (disch := omega) only [go_sem, *]
            rintro r h3 n3 ⟨rfl, hk3⟩
            repeat' first | simp (config := { maxSteps := 2000000 }) (disch := omega) only [go_sem, *, Try.results9] | (first | apply EvG_ndec | apply EvC_ndec | apply EvG_dec | apply EvC_dec | apply EvC_nbool | apply EvC_bool | apply EvG_nbool | apply EvG_bool) <;> intro _
            all_goals refine Kept.trans ?_ hk3
            all_goals (repeat first | assumption | exact Kept.refl _ | refine Kept.set' (by assumption) ?_ ?_ | omega)
          · rw [if_neg e1] at hQ
            by_cases e2 : kd = 2
            · subst e2
              rw [if_pos rfl] at hQ
              repeat' first | simp (config := { maxSteps := 2000000 }) (disch := omega) only [go_sem, *, Try.results9] | (first | apply EvG_ndec | apply EvC_ndec | apply EvG_dec | apply EvC_dec | apply EvC_nbool | apply EvC_bool | apply EvG_nbool | apply EvG_bool) <;> intro _
              refine EvQ_call ?_ ?_ (by rw [hP, hO]; exact eachB 2 k sl s (by omega) (by omega) _ _ (by (repeat refine WfH.set' (by omega) ?_); first | assumption | exact WfH.mono (by assumption) (by omega))) ?_
              · simp (config := { maxSteps := 2000000 }) (disch := omega) only [go_sem, *]
              · simp (config := { maxSteps := 2000000 }) (disch := omega) only [go_sem, *]
              rintro r h3 n3 ⟨rfl, hk3⟩
              repeat' first | simp (config := { maxSteps := 2000000 }) (disch := omega) only [go_sem, *, Try.results9] | (first | apply EvG_ndec | apply EvC_ndec | apply EvG_dec | apply EvC_dec | apply EvC_nbool | apply EvC_bool | apply EvG_nbool | apply EvG_bool) <;> intro _
              all_goals refine Kept.trans ?_ hk3
              all_goals (repeat first | assumption | exact Kept.refl _ | refine Kept.set' (by assumption) ?_ ?_ | omega)
            · rw [if_neg e2] at hQ
              obtain ⟨kn, rfl⟩ : ∃ kn : Nat, k = kn := ⟨k.toNat, by unfold vld at a; omega⟩
              rw [Int.toNat_natCast] at hQ
              have hkk : kd = 3 ∧ 1 ≤ kn ∧ kn ≤ 16 := by unfold vld at a; omega
              obtain ⟨rfl, k1, k2⟩ := hkk
              repeat' first | simp (config := { maxSteps := 2000000 }) (disch := omega) only [go_sem, *, Try.results9] | (first | apply EvG_ndec | apply EvC_ndec | apply EvG_dec | apply EvC_dec | apply EvC_nbool | apply EvC_bool | apply EvG_nbool | apply EvG_bool) <;> intro _
              refine EvQ_call ?_ ?_ (by rw [hP, hO]; exact gateB o50 o41 o48 o49 o51 o58 3 sl s kn hs k1 k2 _ _ (by (repeat refine WfH.set' (by omega) ?_); first | assumption | exact WfH.mono (by assumption) (by omega))) ?_
              · simp (config := { maxSteps := 2000000 }) (disch := omega) only [go_sem, *]
              · simp (config := { maxSteps := 2000000 }) (disch := omega) only [go_sem, *]
              rintro r h3 n3 ⟨rfl, hk3⟩
              repeat' first | simp (config := { maxSteps := 2000000 }) (disch := omega) only [go_sem, *, Try.results9] | (first | apply EvG_ndec | apply EvC_ndec | apply EvG_dec | apply EvC_dec | apply EvC_nbool | apply EvC_bool | apply EvG_nbool | apply EvG_bool) <;> intro _
              all_goals refine Kept.trans ?_ hk3
              all_goals (repeat first | assumption | exact Kept.refl _ | refine Kept.set' (by assumption) ?_ ?_ | omega)
  · rw [if_pos (.inl a)]
    rw [if_pos (.inl a)] at hQ
    clear hk2
    repeat' first | simp (config := { maxSteps := 2000000 }) (disch := omega) only [go_sem, *, Try.results9] | (first | apply EvG_ndec | apply EvC_ndec | apply EvG_dec | apply EvC_dec | apply EvC_nbool | apply EvC_bool | apply EvG_nbool | apply EvG_bool) <;> intro _
end Go.Proofs.Ythhohpbghfbkbaa

set_option linter.unusedVariables false
set_option linter.unusedSimpArgs false
namespace Go.Proofs.Ythhohpbghfbkbaa
open Go.Am

/-- A map of numbers, each to true. -/
def ments : Nat → List Int → List (Value × Value × Nat)
  | _, [] => []
  | j, x :: r => (.int .i64 x, .bool true, j) :: ments (j + 1) r
theorem ments_snoc : ∀ (ws : List Int) (j : Nat) (x : Int), ments j ws ++ [(.int .i64 x, .bool true, j + ws.length)] = ments j (ws ++ [x])
  | [], j, x => rfl
  | y :: ws, j, x => by
    have := ments_snoc ws (j + 1) x
    simp only [List.cons_append, ments, List.length_cons, ← this]
    rw [show j + (ws.length + 1) = j + 1 + ws.length by omega]
theorem und84 : Try.prog.underlying 79 = some (.map 3 4) := by kernel_rfl
theorem und3 : Try.prog.underlying 3 = some (.int .i64) := by kernel_rfl
theorem keyOk3 (x : Int) : keyOk Try.prog 3 (.int .i64) (.int .i64 x) = true := rfl
theorem zero4 : zeroOf Try.prog 4 = some (.bool false) := by kernel_rfl
theorem findM_none {x : Int} : ∀ (ws : List Int) (j i : Nat), ¬ x ∈ ws → findPair (.int .i64) (.int .i64 x) (ments j ws) i = some none
  | [], j, i, _ => rfl
  | y :: ws, j, i, h => by
    simp only [List.mem_cons, not_or] at h
    rw [ments, findPair]
    have : Instr.sameNow (.int .i64) (.int .i64 x) (.int .i64 y) = some false := by
      simp only [Instr.sameNow]
      rw [if_pos trivial]
      simp [h.1]
    simp only [this]
    exact findM_none ws (j + 1) (i + 1) h.2
theorem findM_some {x : Int} : ∀ (ws : List Int) (j i : Nat), x ∈ ws → ∃ p, findPair (.int .i64) (.int .i64 x) (ments j ws) i = some (some (p, .bool true))
  | [], j, i, h => by simp at h
  | y :: ws, j, i, h => by
    rw [ments, findPair]
    by_cases e : x = y
    · subst e
      have : Instr.sameNow (.int .i64) (.int .i64 x) (.int .i64 x) = some true := by
        simp only [Instr.sameNow]
        rw [if_pos trivial]
        simp
      simp only [this]
      exact ⟨i, rfl⟩
    · have : Instr.sameNow (.int .i64) (.int .i64 x) (.int .i64 y) = some false := by
        simp only [Instr.sameNow]
        rw [if_pos trivial]
        simp [e]
      simp only [this]
      rcases List.mem_cons.1 h with q | q
      · exact absurd q e
      · exact findM_some ws (j + 1) (i + 1) q
theorem lk84 {r : Nat} {x : Int} : lkQ Try.prog 79 (.map (some r)) (.int .i64 x) false = .get r (lkB Try.prog (.int .i64) 4 (.int .i64 x) false) := lkQ_map und84 und3 (keyOk3 x)
theorem lkB84 {x : Int} {ws : List Int} {c : Nat} : lkB Try.prog (.int .i64) 4 (.int .i64 x) false (.map (ments 0 ws) c) = .pure (.value (.bool (decide (x ∈ ws)))) := by
  rw [lkB_map]
  show lkR Try.prog 4 false (findPair (.int .i64) (.int .i64 x) (ments 0 ws) 0) = _
  by_cases h : x ∈ ws
  · obtain ⟨p, hp⟩ := findM_some ws 0 0 h
    rw [hp, decide_eq_true h]; rfl
  · rw [findM_none ws 0 0 h, decide_eq_false h]
    unfold lkR
    simp only [zero4, cond_false]
theorem mu84 {r : Nat} {x : Int} {v : Value} : muQ Try.prog 79 (.map (some r)) (.int .i64 x) v = .get r (muB Try.prog r (.int .i64) (.int .i64 x) v) := muQ_map und84 und3 (keyOk3 x)
theorem muB84 {r : Nat} {x : Int} {ws : List Int} (h : ¬ x ∈ ws) : muB Try.prog r (.int .i64) (.int .i64 x) (.bool true) (.map (ments 0 ws) ws.length) = .set r (.map (ments 0 (ws ++ [x])) (ws.length + 1)) (.pure .skip) := by
  rw [muB_map]
  show muR r _ _ _ _ _ (findPair (.int .i64) (.int .i64 x) (ments 0 ws) 0) = _
  rw [findM_none ws 0 0 h]
  unfold muR
  have := ments_snoc ws 0 x
  rw [Nat.zero_add] at this
  simp only [← this]
theorem bkts_mem {s k b : Nat} (hs : s < 2 ^ 64) (hk : 1 ≤ k) (hb : b < k) : decide ((b : Int) ∈ bkts s k) = cov s k b := by
  rw [bkts_eq hs hk]
  cases h : cov s k b with
  | true => exact decide_eq_true (List.mem_map.2 ⟨b, List.mem_filter.2 ⟨List.mem_range.2 hb, h⟩, rfl⟩)
  | false =>
    refine decide_eq_false fun q => ?_
    obtain ⟨c, h1, h2⟩ := List.mem_map.1 q
    obtain rfl : c = b := by omega
    rw [(List.mem_filter.1 h1).2] at h
    simp at h
theorem bkts_asc (s k : Nat) : (bkts s k).Pairwise (· < ·) := cmpL_asc _ (sorted_asc _)

set_option maxHeartbeats 1000000 in
/-- The closure that says what concerns a wait. -/
theorem conClB {O : Over} (kd : Int) (k s v : Nat) (hs : s < 2 ^ 64) (hv : v < 64) (hk : vld kd k) (b2 b3 b5 r c : Nat) (h : PT ABlk) (n : Nat) (h2 : h.get b2 = some (.cells (PT.ofList .leaf 0 [.int .u8 kd, .int .i64 k]) false)) (h3 : h.get b3 = some (.cells (PT.ofList .leaf 0 [.int .u64 s]) false)) (h5 : h.get b5 = some (.cells (PT.ofList .leaf 0 [.map (some r)]) false)) (hr : kd = 3 → h.get r = some (.map (ments 0 (bkts s k)) c)) :
    EvB Try.prog O 38 [.int .u64 v, .pointer (some ⟨b2, 0, none⟩), .pointer (some ⟨b3, 0, none⟩), .pointer (some ⟨b5, 0, none⟩)] h n fun q h' n' => q = .bool (conV kd k s v) ∧ h' = h ∧ n' = n := by
  unfold conV
  by_cases h1 : kd = 1
  · subst h1
    clear hr
    rw [if_pos rfl]
    refine EvB_run (N := 24) Try.func38 rfl rfl fun z hP hO hro hN hQ => ?_
    repeat' first | simp (config := { maxSteps := 2000000 }) (disch := omega) only [go_sem, *, Try.results38] | (first | apply EvG_ndec | apply EvC_ndec | apply EvG_dec | apply EvC_dec | apply EvC_nbool | apply EvC_bool | apply EvG_nbool | apply EvG_bool) <;> intro _ | (first | apply EvH_ndec | apply EvH_dec | apply EvH_nbool | apply EvH_bool) <;> intro _ | refine EvK_draw (id := 6) (L := [(0, 1), (0, 2), (0, 3), (1, 3), (2, 3), (0, 4), (1, 4), (2, 4), (0, 5)]) (by kernel_rfl) (by kernel_rfl) ?_
  · rw [if_neg h1]
    by_cases h2' : kd = 2
    · subst h2'
      clear hr
      rw [if_pos rfl]
      have hv0 : ¬ (v : Int) < 0 := by omega
      have hsh := shr_nat (s := s) hv
      have han := and_one (div_lt (v := v) hs)
      rw [bit_eq]
      refine EvB_run (N := 24) Try.func38 rfl rfl fun z hP hO hro hN hQ => ?_
      repeat' first | simp (config := { maxSteps := 2000000 }) (disch := omega) only [go_sem, *, Try.results38, Int.toNat_natCast] | (first | apply EvG_ndec | apply EvC_ndec | apply EvG_dec | apply EvC_dec | apply EvC_nbool | apply EvC_bool | apply EvG_nbool | apply EvG_bool) <;> intro _ | (first | apply EvH_ndec | apply EvH_dec | apply EvH_nbool | apply EvH_bool) <;> intro _ | refine EvK_draw (id := 6) (L := [(0, 1), (0, 2), (0, 3), (1, 3), (2, 3), (0, 4), (1, 4), (2, 4), (0, 5)]) (by kernel_rfl) (by kernel_rfl) ?_
      refine congrArg Value.bool ?_
      by_cases hb : s / 2 ^ v % 2 = 1
      · rw [decide_eq_true hb]
        refine decide_eq_true (han.trans ?_)
        omega
      · rw [decide_eq_false hb]
        refine decide_eq_false fun q => ?_
        have := han.symm.trans q
        omega
    · rw [if_neg h2']
      have hkk : kd = 3 ∧ 1 ≤ k ∧ k ≤ 16 := by unfold vld at hk; omega
      obtain ⟨rfl, k1, k2⟩ := hkk
      have hr := hr rfl
      have hk0 : ¬ (k : Int) = 0 := by omega
      have hvr : (v : Int).tmod k = ((v % k : Nat) : Int) := rfl
      have hm := bkts_mem hs k1 (Nat.mod_lt v (by omega))
      refine EvB_run (N := 24) Try.func38 rfl rfl fun z hP hO hro hN hQ => ?_
      repeat' first | simp (config := { maxSteps := 2000000 }) (disch := omega) only [go_sem, *, Try.results38, lk84, lkB84] | (first | apply EvG_ndec | apply EvC_ndec | apply EvG_dec | apply EvC_dec | apply EvC_nbool | apply EvC_bool | apply EvG_nbool | apply EvG_bool) <;> intro _ | (first | apply EvH_ndec | apply EvH_dec | apply EvH_nbool | apply EvH_bool) <;> intro _ | refine EvK_draw (id := 6) (L := [(0, 1), (0, 2), (0, 3), (1, 3), (2, 3), (0, 4), (1, 4), (2, 4), (0, 5)]) (by kernel_rfl) (by kernel_rfl) ?_
end Go.Proofs.Ythhohpbghfbkbaa

set_option linter.unusedVariables false
set_option linter.unusedSimpArgs false
namespace Go.Proofs.Ythhohpbghfbkbaa
open Go.Am

theorem not_mem_take {bs : List Int} (h : bs.Pairwise (· < ·)) {i : Nat} (hi : i < bs.length) : ¬ bs.getD i 0 ∈ bs.take i := by
  intro hm
  have e : bs.getD i 0 = bs[i] := by simp [List.getD, hi]
  rw [e] at hm
  obtain ⟨j, hj, hjj⟩ := List.mem_iff_getElem.1 hm
  rw [List.getElem_take] at hjj
  rw [List.length_take] at hj
  have := List.pairwise_iff_getElem.1 h j i (by omega) hi (by omega)
  omega
theorem take_snoc' {bs : List Int} {i : Nat} (hi : i < bs.length) : bs.take i ++ [bs.getD i 0] = bs.take (i + 1) := by
  have e : bs.getD i 0 = bs[i] := by simp [List.getD, hi]
  rw [e, List.take_succ_eq_append_getElem hi]

set_option maxHeartbeats 1000000 in
theorem conB {O : Over} (o50 : O 45 = sortS) (o41 : O 36 = fun _ => none) (o48 : O 43 = fun _ => none) (o49 : O 44 = fun _ => none) (o51 : O 46 = fun _ => none) (o58 : O 55 = fun _ => none) (kd : Int) (k s : Nat) (hs : s < 2 ^ 64) (hk : vld kd k) (h : PT ABlk) (N : Nat) (hW : WfH h N) :
    EvB Try.prog O 28 [engC kd k, .int .u64 s] h N fun q h' n' => ∃ b2 b3 b5 r c, q = .func (.func 38) ⟨[]⟩ ⟨[.pointer (some ⟨b2, 0, none⟩), .pointer (some ⟨b3, 0, none⟩), .pointer (some ⟨b5, 0, none⟩)]⟩ ∧ h'.get b2 = some (.cells (PT.ofList .leaf 0 [.int .u8 kd, .int .i64 k]) false) ∧ h'.get b3 = some (.cells (PT.ofList .leaf 0 [.int .u64 s]) false) ∧
      h'.get b5 = some (.cells (PT.ofList .leaf 0 [.map (some r)]) false) ∧ (kd = 3 → h'.get r = some (.map (ments 0 (bkts s k)) c)) ∧ Kept h h' := by
  unfold engC
  refine EvB_run (N := 31) Try.func28 rfl rfl fun z hP hO hro hN hQ => ?_
  by_cases h3 : kd = 3
  · subst h3
    have hkk : 1 ≤ k ∧ k ≤ 16 := by unfold vld at hk; omega
    obtain ⟨k1, k2⟩ := hkk
    have hasc := bkts_asc s k
    repeat' first | simp (config := { maxSteps := 2000000 }) (disch := omega) only [go_sem, *, Try.results28] | (first | apply EvG_ndec | apply EvC_ndec | apply EvG_dec | apply EvC_dec | apply EvC_nbool | apply EvC_bool | apply EvG_nbool | apply EvG_bool) <;> intro _
    generalize hh1 : PT.set (PT.set (PT.set (PT.set (PT.set h N _) (N + 1) _) (N + 1 + 1) _) (N + 1 + 1 + 1) _) (N + 1 + 1 + 1) _ = h1
    have e1 : h1.get N = some (.cells (PT.ofList .leaf 0 [.int .u8 3, .int .i64 k]) false) := by rw [← hh1]; simp (disch := omega) only [heap_ne, heap_same]
    have e2 : h1.get (N + 1) = some (.cells (PT.ofList .leaf 0 [.int .u64 s]) false) := by rw [← hh1]; simp (disch := omega) only [heap_ne, heap_same]
    have e3 : h1.get (N + 2) = some (.map [] 0) := by rw [← hh1]; simp (disch := omega) only [heap_ne, heap_same]
    have e4 : h1.get (N + 3) = some (.cells (PT.ofList .leaf 0 [.map (some (N + 2))]) false) := by rw [← hh1]; exact heap_same
    have hW1 : WfH h1 (N + 4) := by rw [← hh1]; exact WfH.set' (by omega) (WfH.set' (by omega) (WfH.set' (by omega) (WfH.set' (by omega) (hW.set (by omega) (by omega)))))
    have hk1 : Kept h h1 := by rw [← hh1]; exact Kept.set' hW (by omega) (Kept.set' hW (by omega) (Kept.set' hW (by omega) (Kept.set' hW (by omega) (hW.kept (Nat.le_refl _)))))
    clear hh1
    refine EvQ_call ?_ ?_ (by rw [hP, hO]; exact (buckets o50 o48 o49 o51 o58 s k hs k1 k2 _ _ hW1).wf hW1) ?_
    · simp (config := { maxSteps := 2000000 }) (disch := omega) only [go_sem, *]
    · simp (config := { maxSteps := 2000000 }) (disch := omega) only [go_sem, *]
    rintro r h2 n2 ⟨⟨sl2, rfl, hI, hk2⟩, hn2, hW2⟩
    have f1 := hk2 _ _ e1
    have f2 := hk2 _ _ e2
    have f3 := hk2 _ _ e3
    have f4 := hk2 _ _ e4
    have hk02 := hk1.trans hk2
    obtain ⟨ba, bc, rfl, hA⟩ := hI.len
    obtain ⟨bs, hbs⟩ : ∃ bs, bkts s k = bs := ⟨_, rfl⟩
    rw [hbs] at hA hI hasc hQ ⊢
    have hlen : bs.length ≤ 16 := by
      rw [← hbs, bkts_length hs k1]
      unfold cnt
      have := List.length_filter_le (cov s k) (List.range k)
      rw [List.length_range] at this
      omega
    clear hk2 e1 e2 e3 e4 hbs hk1 hW1
    repeat' first | simp (config := { maxSteps := 2000000 }) (disch := omega) only [go_sem, *, Try.results28] | (first | apply EvG_ndec | apply EvC_ndec | apply EvG_dec | apply EvC_dec | apply EvC_nbool | apply EvC_bool | apply EvG_nbool | apply EvG_bool) <;> intro _
    refine ind_loop (fun t m h' n' => ∃ i : Nat, i + t = bs.length ∧ m.n = 31 ∧ m.dfs = [] ∧ m.get 2 = .pointer (some ⟨N, 0, none⟩) ∧ m.get 3 = .pointer (some ⟨N + 1, 0, none⟩) ∧ m.get 5 = .pointer (some ⟨N + 3, 0, none⟩) ∧ m.get 21 = .slice ba bs.length bc ∧ m.get 22 = .int .i64 bs.length ∧ m.get 23 = .int .i64 i ∧ n' = n2 ∧ h'.get (N + 2) = some (.map (ments 0 (bs.take i)) i) ∧ ∀ j, j ≠ N + 2 → h'.get j = h2.get j) bs.length ?_ ?_
    · refine ⟨0, by omega, ?_⟩
      have hm0 : ments 0 (bs.take 0) = [] := rfl
      rw [hm0]
      simp (config := { maxSteps := 2000000 }) (disch := omega) only [go_sem, *]
      exact fun _ _ => trivial
    · rintro t m h' n' ih ⟨i, hit, m1, m2, m3, m4, m5, m6, m7, m8, rfl, q1, q2⟩
      rcases Nat.lt_or_ge i bs.length with hlt | hge
      · have e7 : (i : Int) < bs.length := by omega
        obtain ⟨bk, off, sp, L, ro, rfl, hbk, hL⟩ := hA i hlt
        have hbk2 : bk ≠ N + 2 := fun e => by rw [e, f3] at hbk; cases hbk
        have hnm := not_mem_take hasc hlt
        have hmu := muB84 (r := N + 2) hnm
        have htl : (bs.take i).length = i := by rw [List.length_take]; omega
        rw [htl, take_snoc' hlt] at hmu
        clear hA hnm hI hk02
        repeat' first | simp (config := { maxSteps := 2000000 }) (disch := omega) only [go_sem, *, Try.results28, mu84] | (first | apply EvG_ndec | apply EvC_ndec | apply EvG_dec | apply EvC_dec | apply EvC_nbool | apply EvC_bool | apply EvG_nbool | apply EvG_bool) <;> intro _
        have hs5 : ∀ j, j ≠ N + 2 → (h'.set (N + 2) (some (.map (ments 0 (bs.take (i + 1))) (i + 1)))).get j = h2.get j := fun j hj => by rw [heap_ne (by omega)]; exact q2 j hj
        refine ih (t - 1) _ _ _ (by omega) ⟨i + 1, by omega, ?_⟩
        have hci : ((i + 1 : Nat) : Int) = (i : Int) + 1 := by omega
        rw [hci]
        clear q2 hmu
        simp (config := { maxSteps := 2000000 }) (disch := omega) only [go_sem, *]
        exact hs5
      · have e7 : ¬ (i : Int) < bs.length := by omega
        obtain rfl : i = bs.length := by omega
        rw [List.take_length] at q1
        clear ih hA hI
        repeat' first | simp (config := { maxSteps := 2000000 }) (disch := omega) only [go_sem, *, Try.results28] | (first | apply EvG_ndec | apply EvC_ndec | apply EvG_dec | apply EvC_dec | apply EvC_nbool | apply EvC_bool | apply EvG_nbool | apply EvG_bool) <;> intro _
        exact ⟨N, N + 1, N + 3, N + 2, bs.length, rfl, (q2 N (by omega)).trans f1, (q2 (N + 1) (by omega)).trans f2, (q2 (N + 3) (by omega)).trans f4, fun _ => q1, fun i B e => by
          have := hW.lt e
          rw [q2 i (by omega)]; exact hk02 i B e⟩
  · clear hk
    repeat' first | simp (config := { maxSteps := 2000000 }) (disch := omega) only [go_sem, *, Try.results28] | (first | apply EvG_ndec | apply EvC_ndec | apply EvG_dec | apply EvC_dec | apply EvC_nbool | apply EvC_bool | apply EvG_nbool | apply EvG_bool) <;> intro _
    exact ⟨N, N + 1, N + 1 + 1 + 1, N + 1 + 1, 0, rfl, by simp (disch := omega) only [heap_ne, heap_same], by simp (disch := omega) only [heap_ne, heap_same], by simp (disch := omega) only [heap_ne, heap_same], fun q => by first | exact absurd q h3 | exact q.elim, Kept.set' hW (by omega) (Kept.set' hW (by omega) (Kept.set' hW (by omega) (Kept.set' hW (by omega) (hW.kept (Nat.le_refl _)))))⟩
end Go.Proofs.Ythhohpbghfbkbaa
