/-
  A part of the proof: contracts of inner functions.
-/
import Derived.Test.YtapcgfakefmemaaT9P4
import Derived.Test.YtapcgfakefmemaaAmY4
import Derived.Test.YtapcgfakefmemaaAmU4
import Derived.Test.YtapcgfakefmemaaT9P5
set_option linter.unusedVariables false
set_option linter.unusedSimpArgs false
namespace Go.Proofs.Ytapcgfakefmemaa
open Go.Am
def OwnInts (k : IntKind) (h : PT ABlk) (lo hi : Nat) (s : Value) (xs : List Int) : Prop :=
  (s = .slice none 0 0 ∧ xs = []) ∨ ∃ b cap, s = .slice (some ⟨b, 0, none⟩) xs.length cap ∧ lo ≤ b ∧ b < hi ∧ h.get b = some (.cells (PT.ofList .leaf 0 (xs.map (.int k))) false)
theorem OwnInts.isInts {k : IntKind} {h : PT ABlk} {lo hi : Nat} {s : Value} {xs : List Int} (hs : OwnInts k h lo hi s xs) : IsInts k h s xs := by
  rcases hs with hs | ⟨b, cap, e, _, _, hb⟩
  · exact .inl hs
  · refine .inr ⟨b, 0, none, cap, _, _, e, hb, ?_, ?_⟩
    · simp [ble_true]
    · rw [List.drop_zero]; exact take_map_self
theorem OwnInts.low {k : IntKind} {h : PT ABlk} {lo hi j : Nat} {s : Value} {xs : List Int} {B : Option ABlk} (hs : OwnInts k h lo hi s xs) (hj : j < lo) : OwnInts k (h.set j B) lo hi s xs := by
  rcases hs with hs | ⟨b, cap, e, hl, hh, hb⟩
  · exact .inl hs
  · exact .inr ⟨b, cap, e, hl, hh, by rw [PT.get_set_ne _ _ (by omega)]; exact hb⟩
theorem clone {O : Over} (s : Value) (xs : List Int) (h : PT ABlk) (N : Nat) (hW : WfH h N) (hs : IsInts .u64 h s xs) (hl : xs.length < 1000000) :
    EvB Try.prog O 58 [s] h N fun v h' n' => Kept h h' ∧ OwnInts .u64 h' N n' v xs := by
  rcases hs.shapes with ⟨rfl, rfl⟩ | ⟨b, off, sp, cap, L, ro, rfl, rfl, hb⟩ | ⟨b, off, sp, cap, L, ro, rfl, hb, hB, hT⟩
  · refine EvB_run (N := 8) Try.func58 rfl rfl ?_
    intro z hP hO hro hN hQ
    repeat' first | simp (maxSteps := 2000000) (disch := first | omega | (repeat first | assumption | exact Kept.refl _ | refine Kept.set' (by assumption) ?_ ?_ | refine Kept.set (by assumption) ?_ ?_ | omega)) only [go_sem, *, Try.results58] | (first | apply xg1 | apply xc1 | apply xg2 | apply xc2 | apply xc3 | apply xc4 | apply xg3 | apply xg4) <;> intro _ | (first | apply xh1 | apply xh2 | apply xh3 | apply xh4) <;> intro _ | refine EvK_draw (by cbv) (by first | rfl | cbv) ?_
    exact ⟨Kept.refl _, .inl ⟨rfl, rfl⟩⟩
  · have hbN := hW.lt hb
    refine EvB_run (N := 8) Try.func58 rfl rfl ?_
    intro z hP hO hro hN hQ
    repeat' first | simp (maxSteps := 2000000) (disch := first | omega | (repeat first | assumption | exact Kept.refl _ | refine Kept.set' (by assumption) ?_ ?_ | refine Kept.set (by assumption) ?_ ?_ | omega)) only [go_sem, *, Try.results58] | (first | apply xg1 | apply xc1 | apply xg2 | apply xc2 | apply xc3 | apply xc4 | apply xg3 | apply xg4) <;> intro _ | (first | apply xh1 | apply xh2 | apply xh3 | apply xh4) <;> intro _ | refine EvK_draw (by cbv) (by first | rfl | cbv) ?_
    all_goals refine ⟨hW.kept (Nat.le_refl _), .inr ⟨N, 0, rfl, Nat.le_refl _, by omega, ?_⟩⟩
    all_goals simp (disch := omega) only [go_sem]
  · have hbN := hW.lt hb
    by_cases hx : xs.length = 0
    · obtain rfl : xs = [] := List.eq_nil_of_length_eq_zero hx
      refine EvB_run (N := 8) Try.func58 rfl rfl ?_
      intro z hP hO hro hN hQ
      repeat' first | simp (maxSteps := 2000000) (disch := first | omega | (repeat first | assumption | exact Kept.refl _ | refine Kept.set' (by assumption) ?_ ?_ | refine Kept.set (by assumption) ?_ ?_ | omega)) only [go_sem, *, Try.results58] | (first | apply xg1 | apply xc1 | apply xg2 | apply xc2 | apply xc3 | apply xc4 | apply xg3 | apply xg4) <;> intro _ | (first | apply xh1 | apply xh2 | apply xh3 | apply xh4) <;> intro _ | refine EvK_draw (by cbv) (by first | rfl | cbv) ?_
      all_goals refine ⟨hW.kept (Nat.le_refl _), .inr ⟨N, 0, rfl, Nat.le_refl _, by omega, ?_⟩⟩
      all_goals simp (disch := omega) only [go_sem]
    · refine EvB_run (N := 8) Try.func58 rfl rfl ?_
      intro z hP hO hro hN hQ
      repeat' first | simp (maxSteps := 2000000) (disch := first | omega | (repeat first | assumption | exact Kept.refl _ | refine Kept.set' (by assumption) ?_ ?_ | refine Kept.set (by assumption) ?_ ?_ | omega)) only [go_sem, *, Try.results58] | (first | apply xg1 | apply xc1 | apply xg2 | apply xc2 | apply xc3 | apply xc4 | apply xg3 | apply xg4) <;> intro _ | (first | apply xh1 | apply xh2 | apply xh3 | apply xh4) <;> intro _ | refine EvK_draw (by cbv) (by first | rfl | cbv) ?_
      all_goals refine ⟨(hW.kept (Nat.le_refl _)).set' hW (by omega), .inr ⟨N + 1, capInf + 1, rfl, by omega, by omega, ?_⟩⟩
      all_goals simp (disch := omega) only [go_sem]
def engW (en sl bu : Int) : Int := if en = 1 then sl else if en = 2 then 2 * sl else if en = 3 then 4 * bu else 0
def engineS : List Value → Option (AP Value)
  | [.agg ⟨[.int .i64 th, .int .i64 sl, .int .u8 en, .int .i64 bu, .int .u8 kd, .int .i64 dn, .slice a ln cp, .int .i64 t0, .int .i64 t1, .int .i64 t2, .int .i64 t3, .int .i64 t4, .int .i64 t5, .int .i64 lo, .int .i64 tr, .int .i64 ba]⟩] =>
    if 1 ≤ en ∧ en ≤ 3 ∧ -1000 ≤ sl ∧ sl ≤ 1000 ∧ -1000 ≤ bu ∧ bu ≤ 1000 then some (.pure (.int .i64 (engW en sl bu))) else none
  | _ => none
theorem engineF : SoundF Try.prog 61 engineS := by
  refine soundF_query (tab_sound .nil) orders ?_
  intro args m hm
  unfold engineS at hm
  split at hm
  · rename_i th sl en bu kd dn a ln cp t0 t1 t2 t3 t4 t5 lo tr ba
    split at hm
    · rename_i hc
      obtain ⟨c1, c2, c3, c4, c5, c6⟩ := hc
      simp only [Option.some.injEq] at hm
      subst hm
      refine ⟨fun h v => v = .int .i64 (engW en sl bu), fun h n v s' _ e => ?_, fun h N v hlt hv => ?_⟩
      · obtain ⟨h1, rfl⟩ := run_pure e
        exact ⟨h1, .int _ _, rfl⟩
      · subst hv
        have hen : en = 1 ∨ en = 2 ∨ en = 3 := by omega
        rcases hen with rfl | rfl | rfl
        all_goals
          refine EvB_run (N := 17) Try.func61 rfl rfl ?_
          intro z hP hO hro hN hQ
          repeat' first | simp (maxSteps := 2000000) (disch := first | omega | (repeat first | assumption | exact Kept.refl _ | refine Kept.set' (by assumption) ?_ ?_ | refine Kept.set (by assumption) ?_ ?_ | omega)) only [go_sem, *, Try.results61] | (first | apply xg1 | apply xc1 | apply xg2 | apply xc2 | apply xc3 | apply xc4 | apply xg3 | apply xg4) <;> intro _ | (first | apply xh1 | apply xh2 | apply xh3 | apply xh4) <;> intro _ | refine EvK_draw (by cbv) (by first | rfl | cbv) ?_
          refine ⟨rfl, fun i hi => by simp (disch := omega) only [heap_ne]⟩
    · simp at hm
  · simp at hm
def domCount (kd dn : Int) (xs : List Int) : Int := if kd = 2 then dn else if kd = 3 then xs.length + 1 else 1
def countS : List Value → Option (AP Value)
  | [.agg ⟨[.int .u8 kd, .int .i64 dn, s]⟩] => some ((rdInts .u64 s).bind fun xs => cond (decide (xs.length < 1000000000000000)) (.pure (.int .i64 (domCount kd dn xs))) (.fail ""))
  | _ => none
theorem countF : SoundF Try.prog 85 countS := by
  refine soundF_query (tab_sound .nil) orders ?_
  intro args m hm
  unfold countS at hm
  split at hm
  · rename_i kd dn s
    simp only [Option.some.injEq] at hm
    subst hm
    refine ⟨fun h v => ∃ xs, IsInts .u64 h s xs ∧ xs.length < 1000000000000000 ∧ v = .int .i64 (domCount kd dn xs), fun h n v s' hR e => ?_, fun h N v hlt hv => ?_⟩
    · obtain ⟨xs, hx, e⟩ := run_ints hR e
      obtain ⟨hl, e⟩ := run_cond e
      obtain ⟨h1, rfl⟩ := run_pure e
      exact ⟨h1, .int _ _, xs, hx, of_decide_eq_true hl, rfl⟩
    · obtain ⟨xs, hx, hl, rfl⟩ := hv
      obtain ⟨a, cap, rfl, -⟩ := hx.len
      refine EvB_run (N := 15) Try.func85 rfl rfl ?_
      intro z hP hO hro hN hQ
      repeat' first | simp (maxSteps := 2000000) (disch := first | omega | (repeat first | assumption | exact Kept.refl _ | refine Kept.set' (by assumption) ?_ ?_ | refine Kept.set (by assumption) ?_ ?_ | omega)) only [go_sem, *, Try.results85] | (first | apply xg1 | apply xc1 | apply xg2 | apply xc2 | apply xc3 | apply xc4 | apply xg3 | apply xg4) <;> intro _ | (first | apply xh1 | apply xh2 | apply xh3 | apply xh4) <;> intro _ | refine EvK_draw (by cbv) (by first | rfl | cbv) ?_
      all_goals refine ⟨?_, fun i hi => by simp (disch := omega) only [heap_ne]⟩
      all_goals simp (maxSteps := 2000000) (disch := first | omega | (repeat first | assumption | exact Kept.refl _ | refine Kept.set' (by assumption) ?_ ?_ | refine Kept.set (by assumption) ?_ ?_ | omega)) only [go_sem, *, domCount, Bool.false_eq_true]
  · simp at hm
abbrev O3 : Over := tabO [(84, domCheckS), (85, countS)]
theorem O3ok : SoundO Try.prog O3 := tab_sound (.cons domCheckF (.cons countF .nil))
def valuesS : List Value → Option (AP Value)
  | [.agg ⟨[.int .u8 kd, .int .i64 dn, s]⟩] => some ((rdInts .u64 s).bind fun xs => cond (decide (xs.length < 1000000000000000)) (.pure (if domOk kd dn xs then .tuple ⟨[.int .i64 (domCount kd dn xs), .int .i64 0]⟩ else .tuple ⟨[.int .i64 0, .int .i64 2]⟩)) (.fail ""))
  | _ => none
theorem valuesF : SoundF Try.prog 59 valuesS := by
  refine soundF_query O3ok orders ?_
  intro args m hm
  unfold valuesS at hm
  split at hm
  · rename_i kd dn s
    simp only [Option.some.injEq] at hm
    subst hm
    refine ⟨fun h v => ∃ xs, IsInts .u64 h s xs ∧ xs.length < 1000000000000000 ∧ v = if domOk kd dn xs then .tuple ⟨[.int .i64 (domCount kd dn xs), .int .i64 0]⟩ else .tuple ⟨[.int .i64 0, .int .i64 2]⟩, fun h n v s' hR e => ?_, fun h N v hlt hv => ?_⟩
    · obtain ⟨xs, hx, e⟩ := run_ints hR e
      obtain ⟨hl, e⟩ := run_cond e
      obtain ⟨h1, rfl⟩ := run_pure e
      refine ⟨h1, ?_, xs, hx, of_decide_eq_true hl, rfl⟩
      split
      · exact .tuple _ (by simp; exact ⟨.int _ _, .int _ _⟩)
      · exact .tuple _ (by simp; exact ⟨.int _ _, .int _ _⟩)
    · obtain ⟨xs, hx, hl, rfl⟩ := hv
      have hrd := fun h' hk z f d ops r K m n => @EvV_ints _ _ h' _ _ hx z f d ops r K m n hk
      obtain ⟨a, cap, rfl, -⟩ := hx.len
      refine EvB_run (N := 12) Try.func59 rfl rfl ?_
      intro z hP hO hro hN hQ
      repeat' first | simp (maxSteps := 2000000) (disch := first | omega | (repeat first | assumption | exact Kept.refl _ | refine Kept.set' (by assumption) ?_ ?_ | refine Kept.set (by assumption) ?_ ?_ | omega)) only [go_sem, *, Try.results59, domCheckS, countS, errIf_eq] | (first | apply xg1 | apply xc1 | apply xg2 | apply xc2 | apply xc3 | apply xc4 | apply xg3 | apply xg4) <;> intro _ | (first | apply xh1 | apply xh2 | apply xh3 | apply xh4) <;> intro _ | refine EvK_draw (by cbv) (by first | rfl | cbv) ?_
      all_goals refine ⟨?_, fun i hi => by simp (disch := omega) only [heap_ne]⟩
      all_goals (try simp only [Bool.not_eq_false] at *)
      all_goals simp (maxSteps := 2000000) (disch := first | omega | (repeat first | assumption | exact Kept.refl _ | refine Kept.set' (by assumption) ?_ ?_ | refine Kept.set (by assumption) ?_ ?_ | omega)) only [go_sem, *, errIf, Bool.false_eq_true]
  · simp at hm
end Go.Proofs.Ytapcgfakefmemaa
set_option linter.unusedVariables false
set_option linter.unusedSimpArgs false
namespace Go.Proofs.Ytapcgfakefmemaa
open Go.Am
theorem copy_run {k : IntKind} {h : PT ABlk} {n b : Nat} {a : Option Addr} {cap : Nat} {xs : List Int} {by' : Nat} (hs : IsInts k h (.slice a xs.length cap) xs) (hW : WfH h n) (hb : h.get b = some (.cells (PT.ofList .leaf 0 []) false)) (hlen : xs.length ≤ 1000) (hby : Nat.ble by' 65536 = true) :
    ∃ v h' n', ((aFirst 1 (.slice a xs.length cap)).bind fun p => apTo 1 by' 1 (some ⟨b, 0, none⟩) 0 0 p.1 p.2).run 0 (S0 h n) = .ok v (S0 h' n') ∧ n ≤ n' ∧ WfH h' n' ∧ OwnInts k h' b n' v xs ∧ Kept h h' ∧ ∀ i, i < n → h'.get i = h.get i := by
  have hbn := hW.lt hb
  rw [run_bind, look_run (aFirst_look hs), bnd_ok_eq]
  simp only
  cases xs with
  | nil => exact ⟨_, h, n, rfl, Nat.le_refl _, hW, .inr ⟨b, 0, rfl, Nat.le_refl _, hbn, hb⟩, Kept.refl _, fun _ _ => rfl⟩
  | cons x xs =>
    have h1 : Nat.beq (x :: xs).length 0 = false := rfl
    have h2 : Nat.ble capInf 0 = false := rfl
    have h3 : Nat.ble (0 + (x :: xs).length) 0 = false := by rw [Nat.zero_add]; rfl
    have hb0 : IsInts k h (.slice (some ⟨b, 0, none⟩) ([] : List Int).length 0) [] := .inr ⟨b, 0, none, 0, [], false, rfl, hb, by simp [ble_true], rfl⟩
    have h4 : (aFirst 1 (.slice (some ⟨b, 0, none⟩) 0 0)).run 0 (S0 h n) = .ok (0, []) (S0 h n) := look_run (aFirst_look hb0)
    have h5 : (Nat.ble (0 + (x :: xs).length) 1048576 && Nat.ble by' 65536 && Nat.beq 1 1 && Nat.beq ([] : List Value).length (0 * 1) && Nat.beq ((x :: xs).map (Value.int k)).length ((x :: xs).length * 1)) = true := by
      rw [hby, List.length_map, Nat.ble_eq_true_of_le (by omega)]
      have e : Nat.beq (x :: xs).length ((x :: xs).length * 1) = true := by rw [Nat.mul_one]; exact Nat.beq_refl _
      rw [e]; rfl
    refine ⟨.slice (some ⟨n, 0, none⟩) (0 + (x :: xs).length) (capInf + 1), h.set n (some (.cells (PT.ofList .leaf 0 ((x :: xs).map (.int k))) false)), n + 1, ?_, by omega, hW.set (by omega) (by omega), .inr ⟨n, capInf + 1, by rw [Nat.zero_add], by omega, by omega, by rw [PT.get_set_same]⟩, hW.kept (Nat.le_refl _), fun i hi => by rw [PT.get_set_ne _ _ (by omega)]⟩
    unfold apTo
    rw [h1, h2, h3]
    simp only [Bool.false_and, cond_false]
    rw [run_bind, h4, bnd_ok_eq]
    simp only
    unfold apGrow
    rw [h5]
    rfl
theorem copy_runS {k : IntKind} {h : PT ABlk} {n b : Nat} {a : Option Addr} {cap : Nat} {xs : List Int} (hs : IsInts k h (.slice a xs.length cap) xs) (hW : WfH h n) (hb : h.get b = some (.cells (PT.ofList .leaf 0 []) false)) (hlen : xs.length ≤ 1000) :
    ∃ v h' n', ((aFirst 1 (.slice a xs.length cap)).bind fun a => cond (a.1.beq 0 && a.2.isEmpty) (.pure (.slice (some ⟨b, 0, none⟩) 0 0)) (cond (a.1.ble 0) (.get b (apB2 b 0 1 0 0 a.1 none a.2))
        (.get b fun B => (fsB 0 0 0 B).bind fun p => cond (a.1.ble 1048576 && p.2.length.beq 0 && a.2.length.beq a.1) (.new (.cells (PT.ofList .leaf 0 (p.2 ++ a.2)) false) fun id => .pure (.slice (some ⟨id, 0, none⟩) a.1 (capInf + 1))) (.fail "append")))).run 0 (S0 h n) = .ok v (S0 h' n') ∧
      (n ≤ n' ∧ WfH h' n' ∧ OwnInts k h' b n' v xs ∧ Kept h h' ∧ ∀ i, i < n → h'.get i = h.get i) := by
  have hbn := hW.lt hb
  rw [run_bind, look_run (aFirst_look hs), bnd_ok_eq]
  simp only
  cases xs with
  | nil => exact ⟨_, h, n, rfl, Nat.le_refl _, hW, .inr ⟨b, 0, rfl, Nat.le_refl _, hbn, hb⟩, Kept.refl _, fun _ _ => rfl⟩
  | cons x xs =>
    have h1 : Nat.beq (x :: xs).length 0 = false := rfl
    have h3 : Nat.ble (x :: xs).length 0 = false := rfl
    have h4 : fsB 0 0 0 (.cells (PT.ofList .leaf 0 []) false) = .pure (0, []) := by rw [fsB_row]; rfl
    have e : Nat.beq ((x :: xs).map (Value.int k)).length (x :: xs).length = true := by rw [List.length_map]; exact Nat.beq_refl _
    refine ⟨.slice (some ⟨n, 0, none⟩) (x :: xs).length (capInf + 1), h.set n (some (.cells (PT.ofList .leaf 0 ((x :: xs).map (.int k))) false)), n + 1, ?_, by omega, hW.set (by omega) (by omega), .inr ⟨n, capInf + 1, rfl, by omega, by omega, by rw [PT.get_set_same]⟩, hW.kept (Nat.le_refl _), fun i hi => by rw [PT.get_set_ne _ _ (by omega)]⟩
    rw [h1, h3]
    simp only [Bool.false_and, cond_false, AP.run, show (S0 h n).heap = h from rfl, hb, show Nat.blt b 0 = false from rfl, h4, AP.bind]
    rw [e, Nat.ble_eq_true_of_le (show (x :: xs).length ≤ 1048576 by omega)]
    rfl
end Go.Proofs.Ytapcgfakefmemaa
set_option linter.unusedVariables false
set_option linter.unusedSimpArgs false
namespace Go.Proofs.Ytapcgfakefmemaa
open Go.Am
def capOf (n : Nat) : Nat := if n = 0 then 0 else capInf + 1
@[go_sem] theorem capOf_zero : capOf 0 = 0 := rfl
theorem capOf_pos {n : Nat} (h : ¬ n = 0) : capOf n = capInf + 1 := if_neg h
theorem cloneX {O : Over} (s : Value) (xs : List Int) (h : PT ABlk) (N : Nat) (hW : WfH h N) (hs : IsInts .u64 h s xs) (hl : xs.length < 1000000) :
    EvB Try.prog O 58 [s] h N fun v h' n' => (s = .slice none 0 0 ∧ v = .slice none 0 0 ∧ Kept h h') ∨ (s ≠ .slice none 0 0 ∧ ∃ g, N ≤ g ∧ g < n' ∧ v = .slice (some ⟨g, 0, none⟩) xs.length (capOf xs.length) ∧ Kept h h' ∧ h'.get g = some (.cells (PT.ofList .leaf 0 (xs.map (.int .u64))) false)) := by
  rcases hs.shapes with ⟨rfl, rfl⟩ | ⟨b, off, sp, cap, L, ro, rfl, rfl, hb⟩ | ⟨b, off, sp, cap, L, ro, rfl, hb, hB, hT⟩
  · refine EvB_run (N := 8) Try.func58 rfl rfl ?_
    intro z hP hO hro hN hQ
    repeat' first | simp (maxSteps := 2000000) (disch := omega) only [go_sem, *, Try.results58] | (first | apply xg1 | apply xc1 | apply xg2 | apply xc2 | apply xc3 | apply xc4 | apply xg3 | apply xg4) <;> intro _ | (first | apply xh1 | apply xh2 | apply xh3 | apply xh4) <;> intro _ | refine EvK_draw (by cbv) (by first | rfl | cbv) ?_
    exact Kept.refl _
  · have hbN := hW.lt hb
    refine EvB_run (N := 8) Try.func58 rfl rfl ?_
    intro z hP hO hro hN hQ
    repeat' first | simp (maxSteps := 2000000) (disch := omega) only [go_sem, *, Try.results58] | (first | apply xg1 | apply xc1 | apply xg2 | apply xc2 | apply xc3 | apply xc4 | apply xg3 | apply xg4) <;> intro _ | (first | apply xh1 | apply xh2 | apply xh3 | apply xh4) <;> intro _ | refine EvK_draw (by cbv) (by first | rfl | cbv) ?_
    all_goals refine .inr ⟨by simp, N, Nat.le_refl _, by omega, rfl, hW.kept (Nat.le_refl _), ?_⟩
    all_goals simp (disch := omega) only [go_sem, List.map_nil]
  · have hbN := hW.lt hb
    by_cases hx : xs.length = 0
    · obtain rfl : xs = [] := List.eq_nil_of_length_eq_zero hx
      refine EvB_run (N := 8) Try.func58 rfl rfl ?_
      intro z hP hO hro hN hQ
      repeat' first | simp (maxSteps := 2000000) (disch := omega) only [go_sem, *, Try.results58] | (first | apply xg1 | apply xc1 | apply xg2 | apply xc2 | apply xc3 | apply xc4 | apply xg3 | apply xg4) <;> intro _ | (first | apply xh1 | apply xh2 | apply xh3 | apply xh4) <;> intro _ | refine EvK_draw (by cbv) (by first | rfl | cbv) ?_
      all_goals refine .inr ⟨by simp, N, Nat.le_refl _, by omega, rfl, hW.kept (Nat.le_refl _), ?_⟩
      all_goals simp (disch := omega) only [go_sem, List.map_nil]
    · refine EvB_run (N := 8) Try.func58 rfl rfl ?_
      intro z hP hO hro hN hQ
      repeat' first | simp (maxSteps := 2000000) (disch := omega) only [go_sem, *, Try.results58] | (first | apply xg1 | apply xc1 | apply xg2 | apply xc2 | apply xc3 | apply xc4 | apply xg3 | apply xg4) <;> intro _ | (first | apply xh1 | apply xh2 | apply xh3 | apply xh4) <;> intro _ | refine EvK_draw (by cbv) (by first | rfl | cbv) ?_
      all_goals refine .inr ⟨by simp, N + 1, by omega, by omega, by rw [capOf_pos hx], (hW.kept (Nat.le_refl _)).set' hW (by omega), ?_⟩
      all_goals simp (disch := omega) only [go_sem]
end Go.Proofs.Ytapcgfakefmemaa
