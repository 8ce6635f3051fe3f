/-
  A part of the proof: contracts of inner functions.
-/
import Derived.Test.YtapcgfakefmemaaTVE
set_option linter.unusedVariables false
set_option linter.unusedSimpArgs false
namespace Go.Proofs.Ytapcgfakefmemaa
open Go.Am
theorem isNan79 {O : Over} (a : Int) (h : PT ABlk) (n : Nat) : EvB Try.prog O 79 [.int .u64 a] h n fun v h' n' => v = .bool false ∧ h' = h ∧ n' = n := by
  refine EvB_run (N := 6) Try.func79 rfl rfl fun z hP hO hro hN hQ => ?_
  repeat' first | simp (maxSteps := 2000000) (disch := omega) only [go_sem, *, Try.results79] | (first | apply xg1 | apply xc1 | apply xg2 | apply xc2 | apply xc3 | apply xc4 | apply xg3 | apply xg4) <;> intro _
def cmpV (a b : Int) : Int := if a < b then -1 else if b < a then 1 else 0
theorem compare47 {O : Over} (o79 : O 79 = fun _ => none) (a b : Int) (h : PT ABlk) (n : Nat) : EvB Try.prog O 47 [.int .u64 a, .int .u64 b] h n fun v h' n' => v = .int .i64 (cmpV a b) ∧ h' = h ∧ n' = n := by
  refine EvB_run (N := 20) Try.func47 rfl rfl fun z hP hO hro hN hQ => ?_
  repeat' first | simp (maxSteps := 2000000) (disch := omega) only [go_sem, *, Try.results47] | (first | apply xg1 | apply xc1 | apply xg2 | apply xc2 | apply xc3 | apply xc4 | apply xg3 | apply xg4) <;> intro _
  refine EvQ_call ?_ ?_ (by rw [hP, hO]; exact isNan79 a _ _) ?_
  · simp (maxSteps := 2000000) (disch := omega) only [go_sem, *]
  · simp (maxSteps := 2000000) (disch := omega) only [go_sem, *]
  rintro v h2 n2 ⟨rfl, hh, hn⟩
  subst hh hn
  repeat' first | simp (maxSteps := 2000000) (disch := omega) only [go_sem, *, Try.results47] | (first | apply xg1 | apply xc1 | apply xg2 | apply xc2 | apply xc3 | apply xc4 | apply xg3 | apply xg4) <;> intro _
  refine EvQ_call ?_ ?_ (by rw [hP, hO]; exact isNan79 b _ _) ?_
  · simp (maxSteps := 2000000) (disch := omega) only [go_sem, *]
  · simp (maxSteps := 2000000) (disch := omega) only [go_sem, *]
  rintro v h2 n2 ⟨rfl, hh, hn⟩
  subst hh hn
  unfold cmpV at hQ
  by_cases c1 : a < b
  · rw [if_pos c1] at hQ
    repeat' first | simp (maxSteps := 2000000) (disch := omega) only [go_sem, *, Try.results47] | (first | apply xg1 | apply xc1 | apply xg2 | apply xc2 | apply xc3 | apply xc4 | apply xg3 | apply xg4) <;> intro _
  · rw [if_neg c1] at hQ
    by_cases c2 : b < a
    · rw [if_pos c2] at hQ
      repeat' first | simp (maxSteps := 2000000) (disch := omega) only [go_sem, *, Try.results47] | (first | apply xg1 | apply xc1 | apply xg2 | apply xc2 | apply xc3 | apply xc4 | apply xg3 | apply xg4) <;> intro _
    · rw [if_neg c2] at hQ
      repeat' first | simp (maxSteps := 2000000) (disch := omega) only [go_sem, *, Try.results47] | (first | apply xg1 | apply xc1 | apply xg2 | apply xc2 | apply xc3 | apply xc4 | apply xg3 | apply xg4) <;> intro _
noncomputable def cmpS : List Value → Option (AP Value)
  | [.agg ⟨[.int .u64 a, .int .u64 _]⟩, .agg ⟨[.int .u64 b, .int .u64 _]⟩] => some (.pure (.int .i64 (cmpV a b)))
  | _ => none
theorem cmpB {O : Over} (o47 : O 47 = fun _ => none) (o79 : O 79 = fun _ => none) (a a2 b b2 : Int) (h : PT ABlk) (n : Nat) (hW : WfH h n) : EvB Try.prog O 46 [.agg ⟨[.int .u64 a, .int .u64 a2]⟩, .agg ⟨[.int .u64 b, .int .u64 b2]⟩] h n fun v h' n' => v = .int .i64 (cmpV a b) ∧ ∀ i, i < n → h'.get i = h.get i := by
  refine EvB_run (N := 10) Try.func46 rfl rfl fun z hP hO hro hN hQ => ?_
  repeat' first | simp (maxSteps := 2000000) (disch := omega) only [go_sem, *, Try.results46] | (first | apply xg1 | apply xc1 | apply xg2 | apply xc2 | apply xc3 | apply xc4 | apply xg3 | apply xg4) <;> intro _
  refine EvQ_call ?_ ?_ (by rw [hP, hO]; exact compare47 o79 a b _ _) ?_
  · simp (maxSteps := 2000000) (disch := omega) only [go_sem, *]
  · simp (maxSteps := 2000000) (disch := omega) only [go_sem, *]
  rintro v h2 n2 ⟨rfl, hh, hn⟩
  subst hh hn
  repeat' first | simp (maxSteps := 2000000) (disch := omega) only [go_sem, *, Try.results46] | (first | apply xg1 | apply xc1 | apply xg2 | apply xc2 | apply xc3 | apply xc4 | apply xg3 | apply xg4) <;> intro _
  intro i hi
  rw [heap_ne (by omega), heap_ne (by omega)]
theorem cmpF : SoundF Try.prog 46 cmpS := by
  refine soundF_look (O := tabO []) (tab_sound .nil) orders ?_ ?_ ?_
  · intro args m hm
    unfold cmpS at hm
    split at hm
    · obtain rfl := Option.some.inj hm; exact .pure _
    · simp at hm
  · intro args m h v hm e
    unfold cmpS at hm
    split at hm
    · obtain rfl := Option.some.inj hm
      rw [look_pure] at e; obtain rfl := Option.some.inj e
      exact .int _ _
    · simp at hm
  · intro args m h N v hm hR hlt e
    unfold cmpS at hm
    split at hm
    · obtain rfl := Option.some.inj hm
      rw [look_pure] at e; obtain rfl := Option.some.inj e
      exact cmpB (O := tabO []) rfl rfl _ _ _ _ h N (WfH.of_lt hlt)
    · simp at hm
noncomputable def samS : List Value → Option (AP Value)
  | [.agg ⟨[.int .u64 a, .int .u64 _]⟩, .agg ⟨[.int .u64 b, .int .u64 _]⟩] => some (.pure (.bool (decide (a = b))))
  | _ => none
theorem samB {O : Over} (a a2 b b2 : Int) (h : PT ABlk) (n : Nat) (hW : WfH h n) : EvB Try.prog O 49 [.agg ⟨[.int .u64 a, .int .u64 a2]⟩, .agg ⟨[.int .u64 b, .int .u64 b2]⟩] h n fun v h' n' => v = .bool (decide (a = b)) ∧ ∀ i, i < n → h'.get i = h.get i := by
  refine EvB_run (N := 10) Try.func49 rfl rfl fun z hP hO hro hN hQ => ?_
  repeat' first | simp (maxSteps := 2000000) (disch := omega) only [go_sem, *, Try.results49] | (first | apply xg1 | apply xc1 | apply xg2 | apply xc2 | apply xc3 | apply xc4 | apply xg3 | apply xg4) <;> intro _
  all_goals
    intro i hi
    rw [heap_ne (by omega), heap_ne (by omega)]
theorem samF : SoundF Try.prog 49 samS := by
  refine soundF_look (O := tabO []) (tab_sound .nil) orders ?_ ?_ ?_
  · intro args m hm
    unfold samS at hm
    split at hm
    · obtain rfl := Option.some.inj hm; exact .pure _
    · simp at hm
  · intro args m h v hm e
    unfold samS at hm
    split at hm
    · obtain rfl := Option.some.inj hm
      rw [look_pure] at e; obtain rfl := Option.some.inj e
      exact .bool _
    · simp at hm
  · intro args m h N v hm hR hlt e
    unfold samS at hm
    split at hm
    · obtain rfl := Option.some.inj hm
      rw [look_pure] at e; obtain rfl := Option.some.inj e
      exact samB (O := tabO []) _ _ _ _ h N (WfH.of_lt hlt)
    · simp at hm
def prC (p : Int × Int) : List Value := [.int .u64 p.1, .int .u64 p.2]
def prL (ps : List (Int × Int)) : List Value := ps.flatMap prC
theorem prL_length : ∀ (ps : List (Int × Int)), (prL ps).length = ps.length * 2
  | [] => rfl
  | p :: ps => by
    have := prL_length ps
    unfold prL at *
    rw [List.flatMap_cons, List.length_append, this]
    simp only [prC, List.length_cons, List.length_nil]; omega
theorem prL_at : ∀ (ps : List (Int × Int)) (i : Nat), i < ps.length → ((prL ps).drop (i * 2)).take 2 = [.int .u64 (ps.getD i (0, 0)).1, .int .u64 (ps.getD i (0, 0)).2]
  | p :: ps, 0, _ => by simp [prL, prC]
  | p :: ps, i + 1, h => by
    have e : prL (p :: ps) = .int .u64 p.1 :: .int .u64 p.2 :: prL ps := by simp [prL, prC]
    rw [e, show (i + 1) * 2 = i * 2 + 1 + 1 by omega, List.drop_succ_cons, List.drop_succ_cons, prL_at ps i (by simpa using h)]
    simp [List.getD]
def key (ps : List (Int × Int)) (i : Nat) : Int := (ps.getD i (0, 0)).1
def AscP (ps : List (Int × Int)) : Prop := ∀ i j, i ≤ j → j < ps.length → key ps i ≤ key ps j
theorem cmpV_nn {a b : Int} (h : b ≤ a) : ¬ cmpV a b < 0 := by
  unfold cmpV
  rw [if_neg (by omega)]
  split <;> omega
@[go_sem] theorem guardQ_undef {b : Bool} : guardQ (some undefV) b = false := rfl
theorem fdiv_half (a : Nat) : Int.fdiv (a : Int) 2 = ((a / 2 : Nat) : Int) := by
  rw [Int.fdiv_eq_ediv_of_nonneg _ (by omega)]; rfl
set_option maxRecDepth 100000 in
set_option maxHeartbeats 4000000 in
theorem insertionB {O : Over} (o46 : O 46 = cmpS) (g len cap : Nat) (ps : List (Int × Int)) (ro : Bool) (a b : Nat) (h : PT ABlk) (N : Nat) (hb : h.get g = some (.cells (PT.ofList .leaf 0 (prL ps)) ro)) (hl : len = ps.length) (hasc : AscP ps) (h1 : a ≤ b) (h2 : b ≤ len) (h3 : len ≤ 100000) :
    EvB Try.prog O 91 [.slice (some ⟨g, 0, none⟩) len cap, .int .i64 a, .int .i64 b, .func (.func 46) ⟨[]⟩ ⟨[]⟩] h N fun v h' n' => v = .tuple ⟨[]⟩ ∧ h' = h ∧ n' = N := by
  subst hl
  refine EvB_run (N := 53) Try.func91 rfl rfl fun z hP hO hro hN hQ => ?_
  repeat' first | simp (maxSteps := 2000000) (disch := omega) only [go_sem, *, Try.results91] | (first | apply xg1 | apply xc1 | apply xg2 | apply xc2 | apply xc3 | apply xc4 | apply xg3 | apply xg4) <;> intro _ | (first | apply xh1 | apply xh2 | apply xh3 | apply xh4) <;> intro _ | refine EvK_draw (id := 4) (L := w91_4) (by kernel_rfl) (by kernel_rfl) ?_ | refine EvK_draw (id := 6) (L := w91_6) (by kernel_rfl) (by kernel_rfl) ?_
  refine ind_loop (fun t m h' n' => h' = h ∧ n' = N ∧ ∃ i : Nat, a + 1 ≤ i ∧ t = ps.length - i ∧ i ≤ ps.length + 1 ∧ m.n = 53 ∧ m.dfs = [] ∧ m.get 0 = .slice (some ⟨g, 0, none⟩) ps.length cap ∧ m.get 1 = .int .i64 a ∧ m.get 2 = .int .i64 b ∧ m.get 3 = .func (.func 46) ⟨[]⟩ ⟨[]⟩ ∧ m.get 8 = .int .i64 i) (ps.length - (a + 1)) ?_ ?_
  · refine ⟨rfl, rfl, a + 1, Nat.le_refl _, rfl, by omega, ?_⟩
    have ca : ((a + 1 : Nat) : Int) = (a : Int) + 1 := by omega
    rw [ca]
    simp (maxSteps := 2000000) (disch := omega) only [go_sem, *]
  · rintro t m h' n' ih ⟨rfl, rfl, i, hi, rfl, hi2, m1, m2, m3, m4, m5, m6, m7⟩
    by_cases hlt : (i : Int) < b
    · obtain ⟨j, rfl⟩ : ∃ j, i = j + 1 := ⟨i - 1, by omega⟩
      have e1 := prL_at ps (j + 1) (by omega)
      have e2 := prL_at ps j (by omega)
      have ea : (a : Int) < ((j + 1 : Nat) : Int) := by omega
      have ej : ((j + 1 : Nat) : Int) - 1 = (j : Int) := by omega
      have hll := prL_length ps
      have hb1 : Nat.ble ((j + 1) * 2 + 2) (ps.length * 2) = true := Nat.ble_eq_true_of_le (by omega)
      have hb2 : Nat.ble (j * 2 + 2) (ps.length * 2) = true := Nat.ble_eq_true_of_le (by omega)
      have hnn : ¬ cmpV (ps.getD (j + 1) (0, 0)).1 (ps.getD j (0, 0)).1 < 0 := cmpV_nn (hasc j (j + 1) (by omega) (by omega))
      generalize (ps.getD (j + 1) (0, 0)).1 = k1 at *
      generalize (ps.getD (j + 1) (0, 0)).2 = x1 at *
      generalize (ps.getD j (0, 0)).1 = k2 at *
      generalize (ps.getD j (0, 0)).2 = x2 at *
      repeat' first | simp (maxSteps := 2000000) (disch := omega) only [go_sem, *, Try.results91, cmpS] | (first | apply xg1 | apply xc1 | apply xg2 | apply xc2 | apply xc3 | apply xc4 | apply xg3 | apply xg4) <;> intro _ | (first | apply xh1 | apply xh2 | apply xh3 | apply xh4) <;> intro _ | refine EvK_draw (id := 4) (L := w91_4) (by kernel_rfl) (by kernel_rfl) ?_ | refine EvK_draw (id := 6) (L := w91_6) (by kernel_rfl) (by kernel_rfl) ?_
      rw [EvK_loop]
      repeat' first | simp (maxSteps := 2000000) (disch := omega) only [go_sem, *, Try.results91, cmpS] | (first | apply xg1 | apply xc1 | apply xg2 | apply xc2 | apply xc3 | apply xc4 | apply xg3 | apply xg4) <;> intro _ | (first | apply xh1 | apply xh2 | apply xh3 | apply xh4) <;> intro _ | refine EvK_draw (id := 4) (L := w91_4) (by kernel_rfl) (by kernel_rfl) ?_ | refine EvK_draw (id := 6) (L := w91_6) (by kernel_rfl) (by kernel_rfl) ?_
      refine ih (ps.length - (j + 1 + 1)) _ _ _ (by omega) ⟨rfl, rfl, j + 1 + 1, by omega, rfl, by omega, ?_⟩
      have ci : ((j + 1 + 1 : Nat) : Int) = ((j + 1 : Nat) : Int) + 1 := by omega
      rw [ci]
      clear ih
      simp (maxSteps := 2000000) (disch := omega) only [go_sem, *]
    · clear ih hasc
      repeat' first | simp (maxSteps := 2000000) (disch := omega) only [go_sem, *, Try.results91] | (first | apply xg1 | apply xc1 | apply xg2 | apply xc2 | apply xc3 | apply xc4 | apply xg3 | apply xg4) <;> intro _ | (first | apply xh1 | apply xh2 | apply xh3 | apply xh4) <;> intro _ | refine EvK_draw (id := 4) (L := w91_4) (by kernel_rfl) (by kernel_rfl) ?_ | refine EvK_draw (id := 6) (L := w91_6) (by kernel_rfl) (by kernel_rfl) ?_
      rfl
end Go.Proofs.Ytapcgfakefmemaa
