/-
  A part of the proof: contracts of inner functions.
-/
import Derived.Test.YtapcgfakefmemaaAmU6
import Derived.Test.YtapcgfakefmemaaAmY3
import Derived.Test.YtapcgfakefmemaaTXH0
import Derived.Test.YtapcgfakefmemaaAmU5
/-
  The abstract machine, for proofs with variables: a call that is walked into where it stands (its body's end goes on with the caller).
-/
set_option linter.unusedSimpArgs false
set_option linter.unusedVariables false
namespace Go.Am
theorem EvQ_in {P : Program} {O : Over} {N : Nat} {z : Zx} {f : FuncId} {fn : Func} {c : Code} {args : List Value} {d : Option Nat} {ops r : List Oper} {K : List KF} {m : Tm} {h : PT ABlk} {n : Nat} (hf : P.funcs[f]? = some fn) (hP : z.P = P) (hO : z.O = O) (hm : m.n = z.N) (hn : z.O f args = none)
    (hb : fn.body = some c) (hN : args.length + (fn.ntmps - args.length) = N)
    (H : ∀ y : Zx, y.P = P → y.O = O → y.ro = none → y.N = N → y.Q = Fin P fn.results.toList (fun v h' n' => EvV z (.pure (.value v)) d ops r K m h' n') → EvK y c [] ⟨N, PT.ofList .leaf 0 args, []⟩ h n) : EvQ z none f args d ops r K m h n :=
  EvQ_call (R := fun v h' n' => EvV z (.pure (.value v)) d ops r K m h' n') hm hn (by rw [hP, hO]; exact EvB_run hf hb hN H) fun _ _ _ q => q
theorem EvQ_callP {P : Program} {O : Over} {z : Zx} {f : FuncId} {args : List Value} {d : Option Nat} {ops r : List Oper} {K : List KF} {m : Tm} {h : PT ABlk} {n : Nat} {R : Value → PT ABlk → Nat → Prop} (hP : z.P = P) (hO : z.O = O) (hm : m.n = z.N) (hn : z.O f args = none)
    (e : EvB P O f args h n R) (hk : ∀ v h' n', R v h' n' → EvV z (.pure (.value v)) d ops r K m h' n') : EvQ z none f args d ops r K m h n := by
  subst hP hO; exact EvQ_call hm hn e hk
end Go.Am
set_option linter.unusedVariables false
set_option linter.unusedSimpArgs false
namespace Go.Proofs.Ytapcgfakefmemaa
open Go.Am
def toC (x : List Int) : CellT := (x.getD 0 0, x.getD 1 0, x.getD 2 0, x.getD 3 0, x.getD 4 0)
theorem celL_rows : ∀ {A : List (List Int)}, RowsOk [.int .u64, .int .u64, .int .u8, .int .u8, .int .u8] A → rowsL [.int .u64, .int .u64, .int .u8, .int .u8, .int .u8] A = celL (A.map toC)
  | [], _ => rfl
  | x :: A, h => by
    have ih := celL_rows h.tail
    obtain ⟨hl, -⟩ := h x (by simp)
    match x, hl with
    | [a, b, c, d, e], _ =>
      unfold rowsL celL at *
      rw [List.map_cons, List.flatMap_cons, List.flatMap_cons, ih]
      rfl
theorem cells_ok {h : PT ABlk} {q : Nat} {s : Value} {A : List (List Int)} (H : IsRows [.int .u64, .int .u64, .int .u8, .int .u8, .int .u8] h q s A) : IsCells h s (A.map toC) ∧ ∀ j, j < (A.map toC).length → CellOk (cel (A.map toC) j) := by
  obtain ⟨h1, h2⟩ := H
  refine ⟨?_, fun j hj => ?_⟩
  · rcases h2 with ⟨rfl, rfl⟩ | ⟨cap, rfl, -, -, e4⟩
    · exact ⟨none, 0, rfl, fun i hi => by simp at hi⟩
    · rw [celL_rows h1] at e4
      exact ⟨_, cap, by rw [List.length_map], fun i _ => ⟨q, true, rfl, e4⟩⟩
  · rw [List.length_map] at hj
    obtain ⟨hl, hw⟩ := h1 A[j] (List.getElem_mem hj)
    have e : cel (A.map toC) j = toC A[j] := by unfold cel; simp [List.getD, hj]
    rw [e]
    generalize A[j] = x at *
    match x, hl with
    | [a, b, c, d, e], _ =>
      obtain ⟨w0, w1, w2, w3, w4, -⟩ := hw
      exact ⟨u64_of_wf w0, u64_of_wf w1, u8_of_wf w2, u8_of_wf w3, u8_of_wf w4⟩
end Go.Proofs.Ytapcgfakefmemaa
set_option linter.unusedVariables false
set_option linter.unusedSimpArgs false
namespace Go.Proofs.Ytapcgfakefmemaa
open Go.Am
@[go_sem] def w5_17 : List (Nat × Nat) := [(0, 4), (1, 4), (2, 4), (3, 4), (0, 5), (1, 5), (2, 5), (3, 5), (4, 5), (0, 6), (1, 6), (2, 6), (3, 6), (4, 6), (5, 6), (0, 7), (1, 7), (2, 7), (3, 7), (4, 7), (5, 7), (10, 11), (11, 12)]
theorem celL_append (A B : List CellT) : celL (A ++ B) = celL A ++ celL B := by unfold celL; rw [List.flatMap_append]
def zC : CellT := (0, 0, 0, 0, 0)
theorem cel_app {C : List CellT} (hC : ∀ j, j < C.length → CellOk (cel C j)) : ∀ j, j < (C ++ [zC]).length → CellOk (cel (C ++ [zC]) j) := fun j hj => by
  rw [List.length_append, List.length_singleton] at hj
  unfold cel at *
  by_cases q : j < C.length
  · have := hC j q
    simp only [List.getD, List.getElem?_append_left q] at this ⊢
    exact this
  · obtain rfl : j = C.length := by omega
    simp only [List.getD, List.getElem?_append_right (Nat.le_refl _), Nat.sub_self, List.getElem?_cons_zero, Option.getD_some]
    unfold CellOk U64 zC
    simp only
    omega
theorem stW_get {W : List Int} {a : Nat} {x0 x1 x4 : Int} (i : Nat) (hi : i < W.length) : (stW W a (a + 1) (a + 4) x0 x1 x4 3)[i]? = some (if i = a then x0 else if i = a + 1 then x1 else if i = a + 4 then x4 else W.getD i 0) := by
  show (((W.set a x0).set (a + 1) x1).set (a + 4) x4)[i]? = _
  rw [List.getElem?_set, List.getElem?_set, List.getElem?_set]
  simp only [List.length_set]
  by_cases c1 : i = a
  · subst c1
    rw [if_neg (by omega), if_neg (by omega), if_pos rfl, if_pos rfl, if_pos hi]
  · by_cases c2 : i = a + 1
    · subst c2
      rw [if_neg (by omega), if_pos rfl, if_pos hi, if_neg (by omega), if_pos rfl]
    · by_cases c4 : i = a + 4
      · subst c4
        rw [if_pos rfl, if_pos hi, if_neg (by omega), if_neg (by omega), if_pos rfl]
      · rw [if_neg (by omega), if_neg (by omega), if_neg (by omega), if_neg c1, if_neg c2, if_neg c4]
        simp [List.getD, hi]
theorem stW_wat {W : List Int} {a : Nat} {x0 x1 x4 b : Int} (h : b < a) (hb : 0 ≤ b) (hl : a + 4 < W.length) : wat (stW W a (a + 1) (a + 4) x0 x1 x4 3) b = wat W b := by
  show wat (((W.set a x0).set (a + 1) x1).set (a + 4) x4) b = _
  rw [wat_set (by simp only [List.length_set]; omega), if_neg (by omega), wat_set (by simp only [List.length_set]; omega), if_neg (by omega), wat_set (by omega), if_neg (by omega)]
def PrsAt (lo hi : Nat) (h : PT ABlk) (s : Value) (ps : List (Int × Int)) : Prop := (s = .slice none 0 0 ∧ ps = []) ∨ ∃ g cap, s = .slice (some ⟨g, 0, none⟩) ps.length cap ∧ lo ≤ g ∧ g < hi ∧ h.get g = some (.cells (PT.ofList .leaf 0 (prL ps)) false)
theorem PrsAt.keep {lo hi : Nat} {h h' : PT ABlk} {s : Value} {ps : List (Int × Int)} (H : PrsAt lo hi h s ps) (k : Kept h h') : PrsAt lo hi h' s ps := by
  rcases H with q | ⟨g, cap, q1, q2, q3, q4⟩
  · exact .inl q
  · exact .inr ⟨g, cap, q1, q2, q3, k _ _ q4⟩
theorem PrsAt.prs {lo hi : Nat} {h : PT ABlk} {s : Value} {ps : List (Int × Int)} (H : PrsAt lo hi h s ps) : IsPrs h s ps := by
  rcases H with q | ⟨g, cap, q1, q2, q3, q4⟩
  · exact .inl q
  · exact .inr ⟨g, cap, _, q1, q4⟩
set_option maxRecDepth 100000 in
set_option maxHeartbeats 8000000 in
theorem apart (s : Value) (C : List CellT) (pk pv v9 al9 k9 e9 g9 : Int) (h : PT ABlk) (N : Nat) (hW : WfH h N) (hs : (s = .slice none 0 0 ∧ C = []) ∨ ∃ g cap ro, s = .slice (some ⟨g, 0, none⟩) C.length cap ∧ h.get g = some (.cells (PT.ofList .leaf 0 (celL C)) ro)) (hC : ∀ j, j < C.length → CellOk (cel C j)) (hc9 : CellOk (v9, al9, k9, e9, g9)) (hpk : U64 pk) (hpv : U64 pv) :
    EvB Try.prog OT 5 [s, .agg ⟨[.int .u64 pk, .int .u64 pv]⟩, .agg ⟨[.int .u64 v9, .int .u64 al9, .int .u8 k9, .int .u8 e9, .int .u8 g9]⟩] h N fun v h' n' => v = .bool true := by
  obtain ⟨sa, scap, hse⟩ : ∃ a cap, s = .slice a C.length cap := by
    rcases hs with ⟨rfl, rfl⟩ | ⟨g, cap, ro, rfl, -⟩
    · exact ⟨_, _, rfl⟩
    · exact ⟨_, _, rfl⟩
  refine EvB_run (N := 180) Try.func5 rfl rfl fun z hP hO hro hN hQ => ?_
  by_cases hn : (30 : Int) < C.length
  · subst hse
    repeat' first | simp (maxSteps := 2000000) (disch := first | omega | assumption | exact Kept.refl _) only [go_sem, *, Try.results5] | (first | apply xg1 | apply xc1 | apply xg2 | apply xc2 | apply xc3 | apply xc4 | apply xg3 | apply xg4) <;> intro _ | (first | apply xh1 | apply xh2 | apply xh3 | apply xh4) <;> intro _ | refine EvK_draw (id := 17) (L := w5_17) (by kernel_rfl) (by kernel_rfl) ?_
  have hcl := celL_length C
  have hcz : celL (C ++ [zC]) = celL C ++ [.int .u64 0, .int .u64 0, .int .u8 0, .int .u8 0, .int .u8 0] := celL_append C [zC]
  have hlz : (C ++ [zC]).length = C.length + 1 := by rw [List.length_append]; rfl
  have hCz := cel_app hC
  have main : ∀ (h1 : PT ABlk) (n1 g1 ln : Nat) (cap : Nat), ln = C.length + 1 → WfH h1 n1 → h1.get N = some (.cells (PT.ofList .leaf 0 [.int .u64 pk, .int .u64 pv]) false) → h1.get (N + 1) = some (.cells (PT.ofList .leaf 0 [.int .u64 v9, .int .u64 al9, .int .u8 k9, .int .u8 e9, .int .u8 g9]) false) → h1.get g1 = some (.cells (PT.ofList .leaf 0 (celL (C ++ [zC]))) false) →
      EvB Try.prog OT 17 [.slice (some ⟨g1, 0, none⟩) ln cap] h1 n1 fun v h2 n2 => n1 ≤ n2 ∧ WfH h2 n2 ∧ ∃ xb lb mb wb tb zb rb rt l W gb cv hB nB sz, v = .pointer (some ⟨xb, 0, none⟩) ∧ NewL 4 2 1 0 1 0 (C.length + 1 : Nat) 0 0 0 0 0 2 3 0 [] hB lb l gb cv ∧ One l (C.length + 1) sz ∧ WfH hB nB ∧ WrS hB nB xb lb mb wb tb zb rb rt l W (5 * (C.length + 1)) h2 ∧ Laid l W (C ++ [zC]) (C.length + 1) sz (C.length + 1) ∧ l.P.getD 4 0 + 2 ≤ l.P.getD 5 0 ∧ hB.get N = some (.cells (PT.ofList .leaf 0 [.int .u64 pk, .int .u64 pv]) false) ∧ hB.get (N + 1) = some (.cells (PT.ofList .leaf 0 [.int .u64 v9, .int .u64 al9, .int .u8 k9, .int .u8 e9, .int .u8 g9]) false) := by
    intro h1 n1 g1 ln cap hln hW1 x1 x2 hg1
    subst hln
    refine ((layB _ (C ++ [zC]) h1 n1 hW1 ⟨_, cap, by rw [hlz], fun i _ => ⟨g1, false, rfl, hg1⟩⟩ (by omega) hCz).wf hW1).mono ?_
    rintro v h2 n2 ⟨⟨xb, lb, mb, wb, tb, zb, rb, rt, l, W, gb, cv, hB, nB, sz, rfl, q1, q2, q3, q4, q5, q6, q7⟩, hn2, hW2⟩
    rw [hlz] at q1 q2 q5 q6
    exact ⟨hn2, hW2, xb, lb, mb, wb, tb, zb, rb, rt, l, W, gb, cv, hB, nB, sz, rfl, q1, q2, q3, q5, q6, q7, q4 _ _ x1, q4 _ _ x2⟩
  rcases hs with ⟨rfl, hC0⟩ | ⟨g, cap, ro, rfl, hg⟩
  focus
    have hl0 : C.length ≤ 0 := by rw [hC0]; exact Nat.le_refl _
    have hz : Nat.beq C.length 0 = true := by rw [hC0]; rfl
    have hce : celL C = [] := by rw [hC0]; rfl
    have hs0 : (Value.slice none 0 0) = .slice none C.length 0 := by rw [hC0]; rfl
    rw [hs0]
    rw [hce] at hcz
    have hn1 : ¬ (C.length : Int) + 1 > 1 := by omega
    clear hC0 hs0 hse hce
    repeat' first | simp (maxSteps := 2000000) (disch := first | omega | assumption | exact Kept.refl _) only [go_sem, *, Try.results5] | (first | apply xg1 | apply xc1 | apply xg2 | apply xc2 | apply xc3 | apply xc4 | apply xg3 | apply xg4) <;> intro _ | (first | apply xh1 | apply xh2 | apply xh3 | apply xh4) <;> intro _ | refine EvK_draw (id := 17) (L := w5_17) (by kernel_rfl) (by kernel_rfl) ?_
    refine EvQ_callP (by assumption) (by assumption) ?_ ?_ (main _ _ _ _ _ (by omega) ?_ ?_ ?_ ?_) ?_
    · simp (maxSteps := 2000000) (disch := first | omega | assumption | exact Kept.refl _) only [go_sem, *]
    · simp (maxSteps := 2000000) (disch := first | omega | assumption | exact Kept.refl _) only [go_sem, *]
    · (repeat refine WfH.set' (by omega) ?_); first | assumption | exact WfH.mono (by assumption) (by omega)
    · simp (disch := omega) only [heap_ne, heap_same]
    · simp (disch := omega) only [heap_ne, heap_same]
    · rw [hcz]; simp (disch := omega) only [heap_ne, heap_same, List.nil_append]
    clear main
    rintro v h2 n2 ⟨hn2, hW2, xb, lb, mb, wb, tb, zb, rb, rt, l, W, gb, cv, hB, nB, sz, rfl, hLB, hone, hWB, S2, L2, h45, x1B, x2B⟩
    have hbf : nxtA l (-1) 0 = befA l C.length ∧ nxtE l (-1) 0 = 0 := by
      unfold befA
      by_cases q : C.length = 0
      · rw [if_pos q]; exact hone.hd
      · omega
    repeat' first | simp (maxSteps := 2000000) (disch := first | omega | assumption | exact Kept.refl _) only [go_sem, *, Try.results5] | (first | apply xg1 | apply xc1 | apply xg2 | apply xc2 | apply xc3 | apply xc4 | apply xg3 | apply xg4) <;> intro _ | (first | apply xh1 | apply xh2 | apply xh3 | apply xh4) <;> intro _ | refine EvK_draw (id := 17) (L := w5_17) (by kernel_rfl) (by kernel_rfl) ?_
  rotate_left
  have hgN := hW.lt hg
  by_cases hl0 : C.length ≤ 0
  focus
    have hC00 : C.length = 0 := by omega
    have hz : Nat.beq C.length 0 = true := by rw [hC00]; rfl
    have hz5 : Nat.beq (C.length * 5) 0 = true := by rw [hC00]; rfl
    have hce : celL C = [] := List.eq_nil_of_length_eq_zero (by omega)
    rw [hce] at hcz hg
    have hn1 : ¬ (C.length : Int) + 1 > 1 := by omega
    clear hse hce hcl hC00
    repeat' first | simp (maxSteps := 2000000) (disch := first | omega | assumption | exact Kept.refl _) only [go_sem, *, Try.results5] | (first | apply xg1 | apply xc1 | apply xg2 | apply xc2 | apply xc3 | apply xc4 | apply xg3 | apply xg4) <;> intro _ | (first | apply xh1 | apply xh2 | apply xh3 | apply xh4) <;> intro _ | refine EvK_draw (id := 17) (L := w5_17) (by kernel_rfl) (by kernel_rfl) ?_
    refine EvQ_callP (by assumption) (by assumption) ?_ ?_ (main _ _ _ _ _ (by omega) ?_ ?_ ?_ ?_) ?_
    · simp (maxSteps := 2000000) (disch := first | omega | assumption | exact Kept.refl _) only [go_sem, *]
    · simp (maxSteps := 2000000) (disch := first | omega | assumption | exact Kept.refl _) only [go_sem, *]
    · (repeat refine WfH.set' (by omega) ?_); first | assumption | exact WfH.mono (by assumption) (by omega)
    · simp (disch := omega) only [heap_ne, heap_same]
    · simp (disch := omega) only [heap_ne, heap_same]
    · rw [hcz]; simp (disch := omega) only [heap_ne, heap_same, List.nil_append]
    clear main
    rintro v h2 n2 ⟨hn2, hW2, xb, lb, mb, wb, tb, zb, rb, rt, l, W, gb, cv, hB, nB, sz, rfl, hLB, hone, hWB, S2, L2, h45, x1B, x2B⟩
    have hbf : nxtA l (-1) 0 = befA l C.length ∧ nxtE l (-1) 0 = 0 := by
      unfold befA
      by_cases q : C.length = 0
      · rw [if_pos q]; exact hone.hd
      · omega
    repeat' first | simp (maxSteps := 2000000) (disch := first | omega | assumption | exact Kept.refl _) only [go_sem, *, Try.results5] | (first | apply xg1 | apply xc1 | apply xg2 | apply xc2 | apply xc3 | apply xc4 | apply xg3 | apply xg4) <;> intro _ | (first | apply xh1 | apply xh2 | apply xh3 | apply xh4) <;> intro _ | refine EvK_draw (id := 17) (L := w5_17) (by kernel_rfl) (by kernel_rfl) ?_
  rotate_left
  focus
    have hz : Nat.beq C.length 0 = false := beq_ne (by omega)
    have htk : List.take (C.length * 5) (celL C) = celL C := List.take_of_length_le (by omega)
    have hbe : Nat.ble (C.length * 5) (C.length * 5) = true := Nat.ble_eq_true_of_le (Nat.le_refl _)
    have hb0 : Nat.ble C.length 0 = false := ble_false (by omega)
    have hb1 : Nat.ble C.length 1048576 = true := Nat.ble_eq_true_of_le (by omega)
    have hb2 : Nat.ble (C.length + 1) 1048576 = true := Nat.ble_eq_true_of_le (by omega)
    have hn1 : (C.length : Int) + 1 > 1 := by omega
    clear hse
    repeat' first | simp (maxSteps := 2000000) (disch := first | omega | assumption | exact Kept.refl _) only [go_sem, *, Try.results5] | (first | apply xg1 | apply xc1 | apply xg2 | apply xc2 | apply xc3 | apply xc4 | apply xg3 | apply xg4) <;> intro _ | (first | apply xh1 | apply xh2 | apply xh3 | apply xh4) <;> intro _ | refine EvK_draw (id := 17) (L := w5_17) (by kernel_rfl) (by kernel_rfl) ?_
    refine EvQ_callP (by assumption) (by assumption) ?_ ?_ (main _ _ _ _ _ (by omega) ?_ ?_ ?_ ?_) ?_
    · simp (maxSteps := 2000000) (disch := first | omega | assumption | exact Kept.refl _) only [go_sem, *]
    · simp (maxSteps := 2000000) (disch := first | omega | assumption | exact Kept.refl _) only [go_sem, *]
    · (repeat refine WfH.set' (by omega) ?_); first | assumption | exact WfH.mono (by assumption) (by omega)
    · simp (disch := omega) only [heap_ne, heap_same]
    · simp (disch := omega) only [heap_ne, heap_same]
    · rw [hcz]; simp (disch := omega) only [heap_ne, heap_same, List.nil_append]
    clear main
    rintro v h2 n2 ⟨hn2, hW2, xb, lb, mb, wb, tb, zb, rb, rt, l, W, gb, cv, hB, nB, sz, rfl, hLB, hone, hWB, S2, L2, h45, x1B, x2B⟩
    have hbf : nxtA l (C.length : Int) 0 = befA l C.length ∧ nxtE l (C.length : Int) 0 = 0 := by
      have q1 := hone.nxt (j := C.length - 1) (by omega)
      rw [show ((C.length - 1 : Nat) : Int) + 1 = C.length by omega, show ((C.length - 1 : Nat) : Int) = (C.length : Int) - 1 by omega] at q1
      unfold befA
      rw [if_neg (by omega)]
      exact q1
    have hw1 : (C.length : Int) + 1 - 1 = C.length := by omega
    repeat' first | simp (maxSteps := 2000000) (disch := first | omega | assumption | exact Kept.refl _) only [go_sem, *, Try.results5] | (first | apply xg1 | apply xc1 | apply xg2 | apply xc2 | apply xc3 | apply xc4 | apply xg3 | apply xg4) <;> intro _ | (first | apply xh1 | apply xh2 | apply xh3 | apply xh4) <;> intro _ | refine EvK_draw (id := 17) (L := w5_17) (by kernel_rfl) (by kernel_rfl) ?_
  rotate_left
  all_goals
    have hlk := hLB.look
    have hrl := fun h' hk z f d ops r K m n => @EvV_look _ _ _ _ h' hlk z f d ops r K m n hk
    have p8 := hone.p8
    have p7 := hone.p7
    have hend := hone.end
    have hn1 := hone.n1
    have hsz := L2.len
    obtain ⟨ab, eab⟩ : ∃ ab : Nat, befA l C.length = ab := ⟨(befA l C.length).toNat, by unfold befA; split <;> omega⟩
    have hab : ab < sz := by unfold befA at eab; split at eab <;> omega
    have hF := laid_cut hone h45 L2 eab
    rw [eab] at hbf
    obtain ⟨hb1, hb2⟩ := hbf
    have hu2 := u64_set (a := ab) (x := 0) L2.u64 (by omega)
    obtain ⟨s1, s2, s3, ⟨lg, ⟨hMr, hMw⟩, hlg⟩, s5⟩ := S2
    obtain ⟨gl, G, rfl, z1, z2, z3, z4⟩ : ∃ g9 G, lg = .slice (some ⟨g9, 0, none⟩) (5 * (C.length + 1)) (capInf + 6) ∧ h2.get g9 = some (.cells (PT.ofList .leaf 0 G) false) ∧ G.length = (5 * (C.length + 1)) * 6 ∧ 0 < 5 * (C.length + 1) ∧ xb < g9 := by
      rcases hlg with ⟨q, _⟩ | q
      · omega
      · exact q
    have hgw := mapW_get (W := W) (i := ab) (by omega)
    have hm1 : (W.map (Value.int .u64)).set ab (.int .u64 0) = (W.set ab 0).map (.int .u64) := by rw [List.map_set]
    have hl1 : (W.set ab 0).length = W.length := List.length_set
    have y3 : (0 : Int) ≤ (ab : Int) := by omega
    have y4 : (ab : Int) < (W.length : Int) := by omega
    have y5 : 5 * (C.length + 1) ≤ 1000000 := by omega
    have y6 : 5 * (C.length + 1) + 1 ≤ 1000000 := by omega
    have d1 : gl ≠ mb ∧ gl ≠ wb := by omega
    have d3 : ¬ wb = mb := by omega
    have nm := hW2.lt hMr
    have nw := hW2.lt hMw
    have ng := hW2.lt z1
    have hl65 : (W.set ab 0).length = sz := by rw [hl1]; exact hsz
    generalize W[ab] = old1 at *
    generalize W.set ab 0 = W6 at *
    clear hlg L2 p8 p7 hend hsz hab
    repeat' first | simp (maxSteps := 2000000) (disch := first | omega | assumption | exact Kept.refl _) only [go_sem, *, Try.results5, storeS, stM, nextS, nextV, Int.toNat_natCast] | (first | apply xg1 | apply xc1 | apply xg2 | apply xc2 | apply xc3 | apply xc4 | apply xg3 | apply xg4) <;> intro _ | (first | apply xh1 | apply xh2 | apply xh3 | apply xh4) <;> intro _ | refine EvK_draw (id := 17) (L := w5_17) (by kernel_rfl) (by kernel_rfl) ?_
    have hsz2 := hone.num.sz2
    generalize hh3 : (((h2.set gl none).set n2 _).set wb _).set mb _ = h3
    have S3 : WrS hB nB xb lb mb wb tb zb rb rt l W6 (5 * (C.length + 1) + 1) h3 := by
      rw [← hh3]
      exact ⟨by repeat (first | exact s1 | refine Kept.set' hWB (by omega) ?_), by simp (disch := omega) only [heap_ne]; exact s2, by simp (disch := omega) only [heap_ne]; exact s3, ⟨_, ⟨by rw [hl1]; exact heap_same, by simp (disch := omega) only [heap_ne, heap_same]⟩, .inr ⟨n2, G ++ acc 0 (ab : Int) old1 0, rfl, by simp (disch := omega) only [heap_ne, heap_same], by rw [List.length_append, z2]; simp only [acc, List.length_cons, List.length_nil]; omega, by omega, by omega⟩⟩, s5⟩
    have W3 : WfH h3 (n2 + 1) := by
      rw [← hh3]
      repeat (first | exact hW2.mono (by omega) | refine WfH.set' (by omega) ?_)
    clear hh3 s1 s2 s3 hMr hMw z1 z2 z3 z4 hgw hm1 y3 y4 y5 y6 d1 d3 ng hrl hb1 hb2 hl1
    obtain ⟨lgx, hT⟩ := S3.tow' hLB hone.num hu2
    have hCm : ∀ j, j < C.length → CellOk (cel (C ++ [zC]) j) := fun j hj => hCz j (by omega)
    have hpp := prs_show (g0 := 0) (g1 := 0) (b0 := false) (b1 := false) hone (Nat.le_succ _) hF (by omega) (by omega) hCm
    have hpB := (pairsB OTpairs tb mb lb wb l W6 lgx 2 1 (by rw [hone.num.eV]; rfl) (by omega) h3 _ W3 hT (by rw [hpp]; exact showL_inc _ _ _ _ _ _)).wf W3
    rw [hpp] at hpB
    have hsl := showL_length 0 0 false false (C ++ [zC]) C.length
    generalize hsw : showL 0 0 false false (C ++ [zC]) C.length = sw at *
    clear hT
    refine EvQ_callP (by assumption) (by assumption) ?_ ?_ hpB ?_
    · simp (maxSteps := 2000000) (disch := first | omega | assumption | exact Kept.refl _) only [go_sem, *]
    · simp (maxSteps := 2000000) (disch := first | omega | assumption | exact Kept.refl _) only [go_sem, *]
    clear hpB
    rintro r h4 n4 ⟨⟨sv, rfl, hs4, k4⟩, hn4, W4⟩
    have hI : PrsAt (n2 + 1) n4 h4 sv sw := by
      have hs4' : (sv = .slice none 0 0 ∧ sw = []) ∨ ∃ g, sv = .slice (some ⟨g, 0, none⟩) sw.length (capInf + 2) ∧ n2 + 1 ≤ g ∧ h4.get g = some (.cells (PT.ofList .leaf 0 (prL sw)) false) := hs4
      rcases hs4' with q | ⟨g7, q1, q2, q4⟩
      · exact .inl q
      · exact .inr ⟨g7, _, q1, q2, W4.lt q4, q4⟩
    clear hs4
    replace S3 := S3.keep k4
    clear k4 W3
    obtain ⟨lg4, hT⟩ := S3.tow' hLB hone.num hu2
    have hM4 := hT.mem
    have hsx := S3.row
    clear hT
    have hlk9 := look_keep S3.kept hlk
    repeat' first | simp (maxSteps := 2000000) (disch := first | omega | assumption | exact Kept.refl _) only [go_sem, *, Try.results5] | (first | apply xg1 | apply xc1 | apply xg2 | apply xc2 | apply xc3 | apply xc4 | apply xg3 | apply xg4) <;> intro _ | (first | apply xh1 | apply xh2 | apply xh3 | apply xh4) <;> intro _ | refine EvK_draw (id := 17) (L := w5_17) (by kernel_rfl) (by kernel_rfl) ?_
    refine EvQ_callP (by assumption) (by assumption) ?_ ?_ ((wordsB (O := OT) rfl mb wb _ lg4 W6 false false h4 n4 W4 hM4.row hM4.words (by omega)).wf W4) ?_
    · simp (maxSteps := 2000000) (disch := first | omega | assumption | exact Kept.refl _) only [go_sem, *]
    · simp (maxSteps := 2000000) (disch := first | omega | assumption | exact Kept.refl _) only [go_sem, *]
    clear hM4
    rintro r h5 n5 ⟨⟨rfl, rfl, hold, k5⟩, -, W5⟩
    replace S3 := S3.keep k5
    replace hI := hI.keep k5
    clear k5 W4 hsx hlk9
    have x1 := S3.kept _ _ x1B
    have x2 := S3.kept _ _ x2B
    have hsx := S3.row
    have hst := S3.tow
    have hrl := fun h' hk z L f d ops r K m n lo rd wr fs => @EvX_look _ _ _ _ h' hlk z L f d ops r K m n lo rd wr fs hk
    have hk5 := S3.kept
    have hl := hone.len
    obtain ⟨c1, c2, ⟨k0, k0'⟩, ⟨e0, e0'⟩, ⟨gg0, gg0'⟩⟩ := hc9
    simp only at c1 c2 k0 k0' e0 e0' gg0 gg0'
    obtain ⟨t1, t2, -⟩ := stOf_facts k0 e0 gg0
    have hdc : @decide (WrOk false 3 ((C.length : Int) + 1) l (stOf k9 e9 g9)) (Classical.propDecidable _) = true := @decide_eq_true _ (Classical.propDecidable _) ⟨rfl, by omega, by omega, t2, t1⟩
    repeat' first | simp (maxSteps := 2000000) (disch := first | omega | assumption | exact Kept.refl _) only [go_sem, *, Try.results5, stateS, writeS] | (first | apply xg1 | apply xc1 | apply xg2 | apply xc2 | apply xc3 | apply xc4 | apply xg3 | apply xg4) <;> intro _ | (first | apply xh1 | apply xh2 | apply xh3 | apply xh4) <;> intro _ | refine EvK_draw (id := 17) (L := w5_17) (by kernel_rfl) (by kernel_rfl) ?_
    generalize hh6 : (((h5.set (n4 + 1) _).set (n4 + 1 + 1) _).set (n4 + 1 + 1 + 1) _).set (n4 + 1 + 1 + 1 + 1) _ = h6
    have k6 : Kept h5 h6 := by rw [← hh6]; exact Kept.set' W5 (by omega) (Kept.set' W5 (by omega) (Kept.set' W5 (by omega) (W5.kept (Nat.le_refl _))))
    have W6' : WfH h6 (n4 + 1 + 1 + 1 + 1 + 1) := by rw [← hh6]; exact WfH.set' (by omega) (WfH.set' (by omega) (WfH.set' (by omega) (W5.set (by omega) (by omega))))
    have Q6 : OpS mb tb (n4 + 1 + 1 + 1 + 1) (n4 + 1 + 1 + 1) (n4 + 1) (n4 + 1 + 1) 3 ((C.length : Int) + 1) (wrL pk pv (stOf k9 e9 g9)) 0 3 h6 := by
      rw [← hh6]
      exact ⟨by simp (disch := omega) only [heap_ne, heap_same], by simp (disch := omega) only [heap_ne, heap_same], by simp (disch := omega) only [heap_ne, heap_same], by simp (disch := omega) only [heap_ne, heap_same]⟩
    replace S3 := S3.keep k6
    replace hI := hI.keep k6
    replace hold := k6 _ _ hold
    have hxn := W5.lt hsx
    clear hh6 k6 hrl hsx hst hdc x1 x2 hk5
    have p8 := hone.p8
    have p7 := hone.p7
    have hend := hone.end
    have p7n : l.P.getD 7 0 = 20 + C.length := by
      rw [hone.num.p7', hl]
      have : l.P.getD 6 0 = 19 := by
        rw [hLB.P]; simp only [placesOf, List.getD_cons_succ, List.getD_cons_zero]; rfl
      omega
    obtain ⟨a0, ea0⟩ : ∃ a0 : Nat, l.P.getD 8 0 + 6 * (C.length : Int) = a0 := ⟨(l.P.getD 8 0 + 6 * (C.length : Int)).toNat, by omega⟩
    obtain ⟨f0, f0'⟩ := hone.wrd (j := C.length) (by omega) (w := 0) (by omega) (by omega)
    have f1 := (hone.wrd (j := C.length) (by omega) (w := 1) (by omega) (by omega)).1
    have f4 := (hone.wrd (j := C.length) (by omega) (w := 4) (by omega) (by omega)).1
    rw [ea0] at f0 f1 f4
    rw [Int.add_zero] at f0
    generalize hst9 : stOf k9 e9 g9 = st9 at *
    have hws := @wr_step l ((C.length : Int) + 1) pk pv st9 W6 a0 (a0 + 1) (a0 + 4) sz (by omega) (by omega) (by omega) (by omega) (by omega) (by omega)
    have hz4 : a0 + 6 = sz := by omega
    have hne : ∀ j, j < 3 → sz ≠ (5 * (C.length + 1) + 1 + j) * 6 := fun j hj => by omega
    refine ind_loop (fun t m h' nn => ∃ j, j ≤ 3 ∧ t = 3 - j ∧ m.n = 180 ∧ m.dfs = [] ∧ m.get 4 = .pointer (some ⟨N, 0, none⟩) ∧ m.get 5 = .pointer (some ⟨N + 1, 0, none⟩) ∧ m.get 7 = .pointer (some ⟨xb, 0, none⟩) ∧ m.get 8 = .int .i64 ((C.length : Int) + 1) ∧ m.get 12 = sv ∧ m.get 13 = .slice (some ⟨n4, 0, none⟩) sz sz ∧ m.get 14 = .pointer (some ⟨n4 + 1 + 1 + 1 + 1, 0, none⟩) ∧ m.get 15 = .int .i64 j ∧ WrS hB nB xb lb mb wb tb zb rb rt l (stW W6 a0 (a0 + 1) (a0 + 4) pk pv st9 j) (5 * (C.length + 1) + 1 + j) h' ∧
      OpS mb tb (n4 + 1 + 1 + 1 + 1) (n4 + 1 + 1 + 1) (n4 + 1) (n4 + 1 + 1) 3 ((C.length : Int) + 1) (wrL pk pv st9) (min (3 * j) 6) (3 - j) h' ∧ h'.get n4 = some (.cells (PT.ofList .leaf 0 (W6.map (.int .u64))) false) ∧ PrsAt (n2 + 1) n4 h' sv sw ∧ WfH h' nn ∧ n4 + 5 ≤ nn) 3 ?_ ?_
    · refine ⟨0, by omega, by omega, ?_⟩
      clear hws p8 p7 hend p7n hz4 f0 f0' f1 f4 ea0
      simp (maxSteps := 2000000) (disch := first | omega | assumption | exact Kept.refl _) only [go_sem, *]
      exact ⟨S3, Q6, Nat.le_refl _⟩
    · clear S3 Q6 W6' hI hold
      rintro t m hx nx ih2 ⟨j, hj, rfl, m1, m2, m3, m4, m5, m6, m7, m8, m9, m10, S4, Q4, hold, hI, q6, q7⟩
      by_cases hj3 : j < 3
      · obtain ⟨pc, w, x, a, r1, r2, r3, r4⟩ := hws j hj3
        have e8 : (j : Int) < 3 := by omega
        have cj : ((j + 1 : Nat) : Int) = (j : Int) + 1 := by omega
        have hsl6 := stW_len W6 a0 (a0 + 1) (a0 + 4) pk pv st9 j
        have hB3 := stepB (O := OT) rfl rfl hWB hlk q6 S4 (by omega) Q4 (by omega) (by omega) (by omega) rfl pc w x r1 (by omega) a r2 (by omega)
        rw [← r4, show 3 - j - 1 = 3 - (j + 1) by omega, show (if 3 - j = 1 then min (3 * j) 6 else min (3 * j) 6 + 3) = min (3 * (j + 1)) 6 by split <;> omega, show decide (3 - j = 1) = decide ((j : Int) = 2) by apply decide_eq_decide.2; omega] at hB3
        have hbb : ∀ p : Bool, (p == p) = true := fun p => by cases p <;> rfl
        have hdj : ∀ p : Prop, ∀ _ : Decidable p, (decide p == decide p) = true := fun p _ => hbb _
        have hny : n4 < nx := by omega
        clear hws p8 p7 hend f0 f0' f1 f4 ea0 hF
        repeat' first | simp (maxSteps := 2000000) (disch := first | omega | assumption | exact Kept.refl _) only [go_sem, *, Try.results5] | (first | apply xg1 | apply xc1 | apply xg2 | apply xc2 | apply xc3 | apply xc4 | apply xg3 | apply xg4) <;> intro _ | (first | apply xh1 | apply xh2 | apply xh3 | apply xh4) <;> intro _ | refine EvK_draw (id := 17) (L := w5_17) (by kernel_rfl) (by kernel_rfl) ?_
        refine EvQ_callP (by assumption) (by assumption) ?_ ?_ hB3 ?_
        · simp (maxSteps := 2000000) (disch := first | omega | assumption | exact Kept.refl _) only [go_sem, *]
        · simp (maxSteps := 2000000) (disch := first | omega | assumption | exact Kept.refl _) only [go_sem, *]
        clear hB3 Q4 q6
        rintro r hy ny ⟨rfl, S5, Q5, W7, q8, hfr⟩
        have hold' := hfr _ _ hold (by omega) (by omega) (by omega) fun L' r' e => by
          have := ofList_inj (ABlk.cells.inj e).1
          rw [← this, List.length_map, hl65]
          exact hne j hj3
        have hI' : PrsAt (n2 + 1) n4 hy sv sw := by
          rcases hI with q | ⟨g7, c7, q1, q2, q3, q4⟩
          · exact .inl q
          · refine .inr ⟨g7, c7, q1, q2, q3, hfr _ _ q4 (by omega) (by omega) (by omega) fun L' r' e => ?_⟩
            have := ofList_inj (ABlk.cells.inj e).1
            rw [← this, prL_length]
            omega
        clear hfr hold hI S4
        repeat' first | simp (maxSteps := 2000000) (disch := first | omega | assumption | exact Kept.refl _) only [go_sem, *, Try.results5] | (first | apply xg1 | apply xc1 | apply xg2 | apply xc2 | apply xc3 | apply xc4 | apply xg3 | apply xg4) <;> intro _ | (first | apply xh1 | apply xh2 | apply xh3 | apply xh4) <;> intro _ | refine EvK_draw (id := 17) (L := w5_17) (by kernel_rfl) (by kernel_rfl) ?_
        refine ih2 (3 - (j + 1)) _ _ _ (by omega) ⟨j + 1, by omega, rfl, ?_⟩
        rw [cj]
        clear ih2
        simp (maxSteps := 2000000) (disch := first | omega | assumption | exact Kept.refl _) only [go_sem, *]
        exact ⟨by rw [r4] at S5; exact S5, by omega⟩
      · have e8 : ¬ (j : Int) < 3 := by omega
        obtain rfl : j = 3 := by omega
        have hl7 : (stW W6 a0 (a0 + 1) (a0 + 4) pk pv st9 3).length = sz := by rw [stW_len]; exact hl65
        have hu7 : ∀ y ∈ stW W6 a0 (a0 + 1) (a0 + 4) pk pv st9 3, 0 ≤ y ∧ y < 18446744073709551616 := u64_set (u64_set (u64_set hu2 hpk) hpv) t1
        have hF7 : Full l (stW W6 a0 (a0 + 1) (a0 + 4) pk pv st9 3) (C ++ [zC]) C.length 0 0 := by
          have hp4 := (S4.tow' hLB hone.num hu7).choose_spec.p4
          have hp7' := hone.num.p7'
          have hp6 := hone.num.ini.p6
          refine hF.move hone (Nat.le_succ _) (fun b h1 h2 => stW_wat (by omega) (by omega) (by omega)) ?_ ?_
          · rw [stW_wat (by omega) (by omega) (by omega)]; exact hF.d0
          · rw [stW_wat (by omega) (by omega) (by omega)]; exact hF.d1
        have hgn := fun i (hi : i < W6.length) => @stW_get W6 a0 pk pv st9 i hi
        obtain ⟨lg7, hT7⟩ := S4.tow' hLB hone.num hu7
        have hM7 := hT7.mem
        have hsx := S4.row
        generalize stW W6 a0 (a0 + 1) (a0 + 4) pk pv st9 3 = W7 at *
        clear ih2 hws p8 p7 hend p7n Q4 hu2 hne hT7 hF
        repeat' first | simp (maxSteps := 2000000) (disch := first | omega | assumption | exact Kept.refl _) only [go_sem, *, Try.results5] | (first | apply xg1 | apply xc1 | apply xg2 | apply xc2 | apply xc3 | apply xc4 | apply xg3 | apply xg4) <;> intro _ | (first | apply xh1 | apply xh2 | apply xh3 | apply xh4) <;> intro _ | refine EvK_draw (id := 17) (L := w5_17) (by kernel_rfl) (by kernel_rfl) ?_
        refine EvQ_callP (by assumption) (by assumption) ?_ ?_ ((wordsB (O := OT) rfl mb wb _ lg7 W7 false false hx nx q6 hM7.row hM7.words (by omega)).wf q6) ?_
        · simp (maxSteps := 2000000) (disch := first | omega | assumption | exact Kept.refl _) only [go_sem, *]
        · simp (maxSteps := 2000000) (disch := first | omega | assumption | exact Kept.refl _) only [go_sem, *]
        clear hM7
        rintro r h8 n8 ⟨⟨rfl, rfl, hnow, k8⟩, -, W8⟩
        replace S4 := S4.keep k8
        replace hI := hI.keep k8
        replace hold := k8 _ _ hold
        clear k8 hsx q6
        have hsx := S4.row
        have x1 := S4.kept _ _ x1B
        have x2 := S4.kept _ _ x2B
        have hk8 := S4.kept
        have hrl := fun h' hk z f d ops r K m n => @EvV_look _ _ _ _ h' hlk z f d ops r K m n hk
        have hlW : W7.length = W6.length := by omega
        repeat' first | simp (maxSteps := 2000000) (disch := first | omega | assumption | exact Kept.refl _) only [go_sem, *, Try.results5, wordS, wordV] | (first | apply xg1 | apply xc1 | apply xg2 | apply xc2 | apply xc3 | apply xc4 | apply xg3 | apply xg4) <;> intro _ | (first | apply xh1 | apply xh2 | apply xh3 | apply xh4) <;> intro _ | refine EvK_draw (id := 17) (L := w5_17) (by kernel_rfl) (by kernel_rfl) ?_
        refine ind_loop (fun t m h' n' => ∃ i : Nat, i ≤ sz ∧ t = sz - i ∧ m.n = 180 ∧ m.dfs = [] ∧ m.get 4 = .pointer (some ⟨N, 0, none⟩) ∧ m.get 5 = .pointer (some ⟨N + 1, 0, none⟩) ∧ m.get 7 = .pointer (some ⟨xb, 0, none⟩) ∧ m.get 12 = sv ∧ m.get 13 = .slice (some ⟨n4, 0, none⟩) sz sz ∧ m.get 18 = .slice (some ⟨nx, 0, none⟩) sz sz ∧ m.get 19 = .int .i64 a0 ∧ m.get 20 = .int .i64 i ∧ h' = h8 ∧ n' = nx + 1) sz ?_ ?_
        · refine ⟨0, by omega, by omega, ?_⟩
          clear hgn f0 f0' f1 f4 ea0
          simp (maxSteps := 2000000) (disch := first | omega | assumption | exact Kept.refl _) only [go_sem, *]
        · clear m1 m2 m3 m4 m5 m6 m7 m8 m9 m10
          rintro t m h' n' ih ⟨i, hi, rfl, m1, m2, m3, m4, m5, m6, m7, m8, m9, m10, rfl, rfl⟩
          by_cases hlt : i < sz
          · have eI : (i : Int) < sz := by omega
            have ci : ((i + 1 : Nat) : Int) = (i : Int) + 1 := by omega
            have gO : (W6.map (Value.int .u64))[i]? = some (.int .u64 (W6.getD i 0)) := by
              rw [List.getElem?_map, List.getElem?_eq_getElem (by omega)]; simp [List.getD, show i < W6.length by omega]
            have gN : (W7.map (Value.int .u64))[i]? = some (.int .u64 (if i = a0 then pk else if i = a0 + 1 then pv else if i = a0 + 4 then st9 else W6.getD i 0)) := by
              rw [List.getElem?_map, hgn i (by omega)]; rfl
            generalize W6.getD i 0 = wo at *
            clear hgn f0 f0' f1 f4 ea0 hF7 hu7
            have hq : (i = a0 ∧ ((i : Int) = a0) = True) ∨ (i = a0 + 1 ∧ ¬ (i : Int) = a0 ∧ ((i : Int) = (a0 : Int) + 1) = True) ∨ (i = a0 + 4 ∧ ¬ (i : Int) = a0 ∧ ¬ (i : Int) = (a0 : Int) + 1 ∧ ((i : Int) = (a0 : Int) + 4) = True) ∨ (¬ (i : Int) = a0 ∧ ¬ (i : Int) = (a0 : Int) + 1 ∧ ¬ (i : Int) = (a0 : Int) + 4) := by
              by_cases c1 : i = a0
              · exact .inl ⟨c1, eq_true (by omega)⟩
              · by_cases c2 : i = a0 + 1
                · exact .inr (.inl ⟨c2, by omega, eq_true (by omega)⟩)
                · by_cases c4 : i = a0 + 4
                  · exact .inr (.inr (.inl ⟨c4, by omega, by omega, eq_true (by omega)⟩))
                  · exact .inr (.inr (.inr (by omega)))
            rcases hq with ⟨c, q1⟩ | ⟨c, q1, q2⟩ | ⟨c, q1, q2, q3⟩ | ⟨q1, q2, q3⟩
            · rw [if_pos c] at gN
              clear c
              repeat' first | simp (maxSteps := 2000000) (disch := first | omega | assumption | exact Kept.refl _) only [go_sem, *, Try.results5, stateS] | (first | apply xg1 | apply xc1 | apply xg2 | apply xc2 | apply xc3 | apply xc4 | apply xg3 | apply xg4) <;> intro _ | (first | apply xh1 | apply xh2 | apply xh3 | apply xh4) <;> intro _ | refine EvK_draw (id := 17) (L := w5_17) (by kernel_rfl) (by kernel_rfl) ?_
              refine ih (sz - (i + 1)) _ _ _ (by omega) ⟨i + 1, by omega, rfl, ?_⟩
              rw [ci]
              clear ih
              simp (maxSteps := 2000000) (disch := first | omega | assumption | exact Kept.refl _) only [go_sem, *]
            · rw [if_neg (by omega), if_pos c] at gN
              clear c
              repeat' first | simp (maxSteps := 2000000) (disch := first | omega | assumption | exact Kept.refl _) only [go_sem, *, Try.results5, stateS] | (first | apply xg1 | apply xc1 | apply xg2 | apply xc2 | apply xc3 | apply xc4 | apply xg3 | apply xg4) <;> intro _ | (first | apply xh1 | apply xh2 | apply xh3 | apply xh4) <;> intro _ | refine EvK_draw (id := 17) (L := w5_17) (by kernel_rfl) (by kernel_rfl) ?_
              refine ih (sz - (i + 1)) _ _ _ (by omega) ⟨i + 1, by omega, rfl, ?_⟩
              rw [ci]
              clear ih
              simp (maxSteps := 2000000) (disch := first | omega | assumption | exact Kept.refl _) only [go_sem, *]
            · rw [if_neg (by omega), if_neg (by omega), if_pos c] at gN
              clear c
              repeat' first | simp (maxSteps := 2000000) (disch := first | omega | assumption | exact Kept.refl _) only [go_sem, *, Try.results5, stateS] | (first | apply xg1 | apply xc1 | apply xg2 | apply xc2 | apply xc3 | apply xc4 | apply xg3 | apply xg4) <;> intro _ | (first | apply xh1 | apply xh2 | apply xh3 | apply xh4) <;> intro _ | refine EvK_draw (id := 17) (L := w5_17) (by kernel_rfl) (by kernel_rfl) ?_
              refine ih (sz - (i + 1)) _ _ _ (by omega) ⟨i + 1, by omega, rfl, ?_⟩
              rw [ci]
              clear ih
              simp (maxSteps := 2000000) (disch := first | omega | assumption | exact Kept.refl _) only [go_sem, *]
            · rw [if_neg (by omega), if_neg (by omega), if_neg (by omega)] at gN
              repeat' first | simp (maxSteps := 2000000) (disch := first | omega | assumption | exact Kept.refl _) only [go_sem, *, Try.results5, stateS] | (first | apply xg1 | apply xc1 | apply xg2 | apply xc2 | apply xc3 | apply xc4 | apply xg3 | apply xg4) <;> intro _ | (first | apply xh1 | apply xh2 | apply xh3 | apply xh4) <;> intro _ | refine EvK_draw (id := 17) (L := w5_17) (by kernel_rfl) (by kernel_rfl) ?_
              refine ih (sz - (i + 1)) _ _ _ (by omega) ⟨i + 1, by omega, rfl, ?_⟩
              rw [ci]
              clear ih
              simp (maxSteps := 2000000) (disch := first | omega | assumption | exact Kept.refl _) only [go_sem, *]
          · have eI : ¬ (i : Int) < sz := by omega
            obtain ⟨lg9, hT9⟩ := S4.tow' hLB hone.num hu7
            have hpp9 := prs_show (g0 := 0) (g1 := 0) (b0 := false) (b1 := false) hone (Nat.le_succ _) hF7 (by omega) (by omega) hCm
            rw [hsw] at hpp9
            have hpB := (pairsB OTpairs tb mb lb wb l W7 lg9 2 1 (by rw [hone.num.eV]; rfl) (by omega) _ _ W8 hT9 (by rw [hpp9, ← hsw]; exact showL_inc _ _ _ _ _ _)).wf W8
            rw [hpp9] at hpB
            clear ih hgn hT9 f0 f0' f1 f4 ea0 hF7
            repeat' first | simp (maxSteps := 2000000) (disch := first | omega | assumption | exact Kept.refl _) only [go_sem, *, Try.results5] | (first | apply xg1 | apply xc1 | apply xg2 | apply xc2 | apply xc3 | apply xc4 | apply xg3 | apply xg4) <;> intro _ | (first | apply xh1 | apply xh2 | apply xh3 | apply xh4) <;> intro _ | refine EvK_draw (id := 17) (L := w5_17) (by kernel_rfl) (by kernel_rfl) ?_
            refine EvQ_callP (by assumption) (by assumption) ?_ ?_ hpB ?_
            · simp (maxSteps := 2000000) (disch := first | omega | assumption | exact Kept.refl _) only [go_sem, *]
            · simp (maxSteps := 2000000) (disch := first | omega | assumption | exact Kept.refl _) only [go_sem, *]
            clear hpB
            rintro r hA nA ⟨⟨sA, rfl, hsA, kA⟩, hnA, WA⟩
            have hJ := prs_any hsA
            have he := equalPairsB (O := OT) _ _ _ _ hA nA (hI.prs.keep kA) hJ (by omega) (by omega)
            rw [decide_eq_true rfl] at he
            clear hJ hsA hI
            repeat' first | simp (maxSteps := 2000000) (disch := first | omega | assumption | exact Kept.refl _) only [go_sem, *, Try.results5] | (first | apply xg1 | apply xc1 | apply xg2 | apply xc2 | apply xc3 | apply xc4 | apply xg3 | apply xg4) <;> intro _ | (first | apply xh1 | apply xh2 | apply xh3 | apply xh4) <;> intro _ | refine EvK_draw (id := 17) (L := w5_17) (by kernel_rfl) (by kernel_rfl) ?_
            refine EvQ_callP (by assumption) (by assumption) ?_ ?_ he ?_
            · simp (maxSteps := 2000000) (disch := first | omega | assumption | exact Kept.refl _) only [go_sem, *]
            · simp (maxSteps := 2000000) (disch := first | omega | assumption | exact Kept.refl _) only [go_sem, *]
            rintro r hZ nZ ⟨rfl, hh, hn9⟩
            subst hh hn9
            clear he
            repeat' first | simp (maxSteps := 2000000) (disch := first | omega | assumption | exact Kept.refl _) only [go_sem, *, Try.results5] | (first | apply xg1 | apply xc1 | apply xg2 | apply xc2 | apply xc3 | apply xc4 | apply xg3 | apply xg4) <;> intro _ | (first | apply xh1 | apply xh2 | apply xh3 | apply xh4) <;> intro _ | refine EvK_draw (id := 17) (L := w5_17) (by kernel_rfl) (by kernel_rfl) ?_
end Go.Proofs.Ytapcgfakefmemaa
