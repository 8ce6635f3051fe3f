/-
  A part of the proof: contracts of inner functions.
-/
import Derived.Test.YtapcgfakefmemaaTWJ
set_option linter.unusedVariables false
set_option linter.unusedSimpArgs false
namespace Go.Proofs.Ytapcgfakefmemaa
open Go.Am
theorem aft_range {l : LayV} {W : List Int} {r lv : Int} (hu : ∀ x ∈ W, 0 ≤ x ∧ x < 18446744073709551616) : 0 ≤ aft l W r lv ∧ aft l W r lv ≤ l.H.length := by
  have := wat_u64 hu (nxtA l r lv)
  unfold aft
  split
  · split <;> omega
  · omega
def chain (l : LayV) (W : List Int) (lv : Int) : Nat → List Bool → Int → List Int
  | 0, _, _ => []
  | f + 1, S, r => if 0 < r ∧ S.getD r.toNat true = false ∧ lv < hgtA l.H r then r :: chain l W lv f (S.set r.toNat true) (aft l W r lv) else []
theorem count_set {S : List Bool} {i : Nat} (h : S[i]? = some false) : (S.set i true).count false + 1 = S.count false := by
  induction S generalizing i with
  | nil => simp at h
  | cons x S ih =>
    cases i with
    | zero =>
      simp only [List.getElem?_cons_zero, Option.some.injEq] at h
      subst h
      simp
    | succ i =>
      simp only [List.getElem?_cons_succ] at h
      have := ih h
      simp only [List.set_cons_succ, List.count_cons]
      omega
theorem bools_zero (n : Nat) : rep [Value.bool false] n = (List.replicate n false).map Value.bool := by
  rw [rep_one, List.map_replicate]
set_option maxRecDepth 100000 in
set_option maxHeartbeats 4000000 in
theorem listIt {O : Over} (oN : O 18 = nextS) (oT : O 40 = towersS) (oH : O 12 = heightS) (o11 : O 11 = fun _ => none) (o39 : O 39 = towPeekS)
    (lp p1 p2 p3 tb mb lb wb : Nat) (l : LayV) (W : List Int) (lg : Value) (v lv : Int) (tm : Tm) (p : Nat) (hp : p < tm.n) (ac bd : Code) (I : List Int → PT ABlk → Nat → Prop) (h0 h : PT ABlk) (N : Nat) (hW : WfH h N) (hk0 : Kept h0 h)
    (h1 : h0.get p1 = some (.cells (PT.ofList .leaf 0 [.pointer (some ⟨tb, 0, none⟩)]) false)) (h2 : h0.get p2 = some (.cells (PT.ofList .leaf 0 [.int .i64 v]) false)) (h3 : h0.get p3 = some (.cells (PT.ofList .leaf 0 [.int .i64 lv]) false))
    (ht : h0.get tb = some (.cells (PT.ofList .leaf 0 [.pointer (some ⟨mb, 0, none⟩), .pointer (some ⟨lb, 0, none⟩)]) false)) (hM : IsMem h0 mb wb W lg) (hl : (rdL (.pointer (some ⟨lb, 0, none⟩))).look h0 = some l) (hu : ∀ x ∈ W, 0 ≤ x ∧ x < 18446744073709551616) (hH : l.H.length ≤ 2000) (hv : 0 ≤ v ∧ v ≤ 1000)
    (hlp : h.get lp = some (.loop .ready none tm [p] ac bd)) (hI0 : ∀ x : ABlk, I [] (h.set N (some x)) (N + 1)) (hIk : ∀ ws h' n', I ws h' n' → Kept h0 h') (hset : ∀ ws h' n' (x : ABlk), I ws h' n' → I ws (h'.set N (some x)) n')
    (hstep : ∀ ws (r : Int) h' n', WfH h' n' → N + 1 ≤ n' → I ws h' n' → ws.length ≤ l.H.length → (0 < r ∧ r ≤ l.H.length) → h'.get lp = some (.loop .ready none tm [p] ac bd) → RoundB Try.prog O lp (setD (up tm p (.int .i64 r)) []) ac bd h' n' (fun b h2 n2 => b = true ∧ I (ws ++ [r]) h2 n2 ∧ h2.get lp = some (.loop .ready none tm [p] ac bd) ∧ h2.get N = h'.get N ∧ WfH h2 n2 ∧ n' ≤ n2)) :
    EvB Try.prog O 71 [.func (.yield lp) ⟨[]⟩ ⟨[]⟩, .pointer (some ⟨p1, 0, none⟩), .pointer (some ⟨p2, 0, none⟩), .pointer (some ⟨p3, 0, none⟩)] h N fun _ h' n' => I (chain l W lv (l.H.length + 1) (List.replicate (l.H.length + 1) false) (aft l W (-1 - v) lv)) h' n' ∧ h'.get lp = some (.loop .ready none tm [p] ac bd) ∧ WfH h' n' ∧ N + 1 ≤ n' := by
  obtain ⟨hv0, hv1⟩ := hv
  have hlN := hW.lt hlp
  have g1 := hk0 _ _ h1
  have g2 := hk0 _ _ h2
  have g3 := hk0 _ _ h3
  have gt := hk0 _ _ ht
  have gM := hM.keep hk0
  have gl := look_keep hk0 hl
  have a1 := hW.lt g1
  have a2 := hW.lt g2
  have a3 := hW.lt g3
  have a4 := hW.lt gt
  obtain ⟨C, hC⟩ : ∃ C, chain l W lv (l.H.length + 1) (List.replicate (l.H.length + 1) false) (aft l W (-1 - v) lv) = C := ⟨_, rfl⟩
  have hbz : Value.bool false :: rep [Value.bool false] l.H.length = (List.replicate (l.H.length + 1) false).map Value.bool := by rw [rep_one, List.replicate_succ, List.map_cons, List.map_replicate]
  have hble : (l.H.length + 1).ble 1048576 = true := Nat.ble_eq_true_of_le (by omega)
  have har := fun r => @aft_range l W r lv hu
  have hrl := fun h' hk z f d ops r K m n => @EvV_look _ _ _ _ h' hl z f d ops r K m n hk
  rw [hC]
  refine EvB_run (N := 62) Try.func71 rfl rfl fun z hP hO hro hN hQ => ?_
  have hton : ((l.H.length : Int) + 1).toNat = l.H.length + 1 := by omega
  repeat' first | simp (maxSteps := 2000000) (disch := omega) only [go_sem, *, Try.results71, towersS] | (first | apply xg1 | apply xc1 | apply xg2 | apply xc2 | apply xc3 | apply xc4 | apply xg3 | apply xg4) <;> intro _
  have i0 := hI0 (.cells (PT.ofList .leaf 0 ((List.replicate (l.H.length + 1) false).map Value.bool)) false)
  generalize hh1 : h.set N (some (.cells (PT.ofList .leaf 0 ((List.replicate (l.H.length + 1) false).map Value.bool)) false)) = h1' at *
  have r1 := get_of_set hh1
  have kk1 : Kept h h1' := by rw [← hh1]; exact hW.kept (Nat.le_refl _)
  have w1 : WfH h1' (N + 1) := by rw [← hh1]; exact hW.set (by omega) (by omega)
  have hlp1 := kk1 _ _ hlp
  have k01 := hk0.trans kk1
  clear hh1 kk1 hbz hton hble
  refine EvQ_call ?_ ?_ (by rw [hP, hO]; exact afterB oN oT o39 tb mb lb wb l W lg (-1 - v) lv _ _ (k01 _ _ ht) (hM.keep k01) (look_keep k01 hl) hu hH) ?_
  · simp (maxSteps := 2000000) (disch := omega) only [go_sem, *]
  · simp (maxSteps := 2000000) (disch := omega) only [go_sem, *]
  rintro w h2' n2 ⟨rfl, hh, hn⟩
  subst hh hn
  clear g1 g2 g3 gt gM gl hlp hI0 hW hk0
  obtain ⟨ra0, ra1⟩ := @aft_range l W (-1 - v) lv hu
  have hrep : (List.replicate (l.H.length + 1) false).length = l.H.length + 1 := List.length_replicate
  have hcnt : (List.replicate (l.H.length + 1) false).count false = l.H.length + 1 := by simp
  generalize List.replicate (l.H.length + 1) false = S0' at *
  generalize aft l W (-1 - v) lv = r0 at *
  repeat' first | simp (maxSteps := 2000000) (disch := omega) only [go_sem, *, Try.results71] | (first | apply xg1 | apply xc1 | apply xg2 | apply xc2 | apply xc3 | apply xc4 | apply xg3 | apply xg4) <;> intro _
  refine ind_loop (fun t m h' n' => ∃ (r : Int) (S : List Bool) (ws : List Int), 0 ≤ r ∧ r ≤ l.H.length ∧ S.length = l.H.length + 1 ∧ S.count false = t ∧ ws.length + t = l.H.length + 1 ∧ ws ++ chain l W lv t S r = C ∧ m.n = 62 ∧ m.dfs = [] ∧ m.get 0 = .func (.yield lp) ⟨[]⟩ ⟨[]⟩ ∧ m.get 1 = .pointer (some ⟨p1, 0, none⟩) ∧ m.get 2 = .pointer (some ⟨p2, 0, none⟩) ∧ m.get 3 = .pointer (some ⟨p3, 0, none⟩) ∧
    m.get 5 = .slice (some ⟨N, 0, none⟩) (l.H.length + 1) (l.H.length + 1) ∧ m.get 6 = .int .i64 r ∧ h'.get N = some (.cells (PT.ofList .leaf 0 (S.map Value.bool)) false) ∧ h'.get lp = some (.loop .ready none tm [p] ac bd) ∧ I ws h' n' ∧ WfH h' n' ∧ N + 1 ≤ n') (l.H.length + 1) ?_ ?_
  · refine ⟨r0, S0', [], ra0, ra1, hrep, hcnt, Nat.zero_add _, hC, ?_⟩
    clear hrl har
    simp (maxSteps := 2000000) (disch := omega) only [go_sem, *]
    try exact Nat.le_refl _
  · clear hC i0 r1 w1 hlp1 k01 hrep hcnt ra0 ra1
    rintro t m h' n' ih ⟨r, S, ws, hr0, hr1, hSl, hSc, hwt, hch, m0, m1, m2, m3, m4, m5, m6, m7, q1, q2, q3, q4, q5⟩
    obtain ⟨rn, rfl⟩ : ∃ rn : Nat, r = rn := ⟨r.toNat, by omega⟩
    have hrn : rn < S.length := by omega
    have hgD : S.getD (rn : Int).toNat true = S[rn] := by rw [Int.toNat_natCast]; simp [List.getD, hrn]
    have hSm : (S.map Value.bool)[rn]? = some (.bool S[rn]) := by rw [List.getElem?_map, List.getElem?_eq_getElem hrn]; rfl
    have hSml : (S.map Value.bool).length = l.H.length + 1 := by rw [List.length_map]; exact hSl
    have k0' := hIk _ _ _ q3
    have g1 := k0' _ _ h1
    have g2 := k0' _ _ h2
    have g3 := k0' _ _ h3
    have gt := k0' _ _ ht
    by_cases c1 : 0 < (rn : Int)
    · have c1' : rn < l.H.length + 1 := by omega
      cases hb : S[rn] with
      | true =>
        have hnil : chain l W lv t S rn = [] := by
          cases t with
          | zero => rfl
          | succ t => rw [chain, if_neg]; rw [hgD, hb]; simp
        rw [hnil, List.append_nil] at hch
        subst hch
        rw [hb] at hSm
        clear ih hstep hset hgD
        repeat' first | simp (maxSteps := 2000000) (disch := omega) only [go_sem, *, Try.results71] | (first | apply xg1 | apply xc1 | apply xg2 | apply xc2 | apply xc3 | apply xc4 | apply xg3 | apply xg4) <;> intro _
        exact ⟨_, rfl⟩
      | false =>
        rw [hb] at hSm hgD
        have hco : ∃ t', t = t' + 1 ∧ (S.set rn true).count false = t' := by
          have := count_set (S := S) (i := rn) (by rw [List.getElem?_eq_getElem hrn, hb])
          exact ⟨(S.set rn true).count false, by omega, rfl⟩
        obtain ⟨t', rfl, hco⟩ := hco
        by_cases c2 : lv < hgtA l.H rn
        · rw [chain, if_pos ⟨c1, hgD, c2⟩, Int.toNat_natCast] at hch
          have c2' : ¬ hgtA l.H rn ≤ lv := by omega
          have hst := hstep ws rn h' n' q4 q5 q3 (by omega) ⟨c1, hr1⟩ q2
          clear hstep hgD c2
          repeat' first | simp (maxSteps := 2000000) (disch := omega) only [go_sem, *, Try.results71, heightS, heightV, putArgs_one] | (first | apply xg1 | apply xc1 | apply xg2 | apply xc2 | apply xc3 | apply xc4 | apply xg3 | apply xg4) <;> intro _
          refine EvR_round ?_ (by rw [hP, hO]; exact hst) ?_
          · simp (maxSteps := 2000000) (disch := omega) only [go_sem, *]
          rintro b h3' n3 ⟨rfl, j1, j2, j3, j4, j5⟩
          rw [q1] at j3
          have k3 := hIk _ _ _ j1
          have g1 := k3 _ _ h1
          have g2 := k3 _ _ h2
          have g3 := k3 _ _ h3
          have gt := k3 _ _ ht
          have hSm2 : (S.map Value.bool).set rn (.bool true) = (S.set rn true).map Value.bool := by rw [List.map_set]
          have j6 := hset _ _ _ (.cells (PT.ofList .leaf 0 ((S.set rn true).map Value.bool)) false) j1
          have hNn3 : N + 1 ≤ n3 := by omega
          clear q1 q2 q3 q4 q5 hst k0' g1 g2 g3 gt
          have g1 := k3 _ _ h1
          have g2 := k3 _ _ h2
          have g3 := k3 _ _ h3
          repeat' first | simp (maxSteps := 2000000) (disch := omega) only [go_sem, *, Try.results71] | (first | apply xg1 | apply xc1 | apply xg2 | apply xc2 | apply xc3 | apply xc4 | apply xg3 | apply xg4) <;> intro _
          generalize hh4 : h3'.set N _ = h4
          have e1 := get_of_set hh4
          have e2 : h4.get lp = some (.loop .ready none tm [p] ac bd) := by rw [← hh4, heap_ne (by omega)]; exact j2
          rw [hh4] at j6
          have w4 : WfH h4 n3 := by rw [← hh4]; exact WfH.set' (by omega) j4
          have k4 := hIk _ _ _ j6
          refine EvQ_call ?_ ?_ (by rw [hP, hO]; exact afterB oN oT o39 tb mb lb wb l W lg rn lv _ _ (k4 _ _ ht) (hM.keep k4) (look_keep k4 hl) hu hH) ?_
          · simp (maxSteps := 2000000) (disch := omega) only [go_sem, *]
          · simp (maxSteps := 2000000) (disch := omega) only [go_sem, *]
          rintro w h5 n5' ⟨rfl, hh5, hn5⟩
          subst hh5 hn5
          obtain ⟨ra0, ra1⟩ := har rn
          clear hh4 j1 j2 j3 j4 k3 hset
          repeat' first | simp (maxSteps := 2000000) (disch := omega) only [go_sem, *, Try.results71] | (first | apply xg1 | apply xc1 | apply xg2 | apply xc2 | apply xc3 | apply xc4 | apply xg3 | apply xg4) <;> intro _
          refine ih t' _ _ _ (by omega) ⟨aft l W rn lv, S.set rn true, ws ++ [(rn : Int)], ra0, ra1, by rw [List.length_set]; exact hSl, hco, by rw [List.length_append]; simp only [List.length_cons, List.length_nil]; omega, by rw [List.append_assoc]; exact hch, ?_⟩
          clear ih hrl har
          simp (maxSteps := 2000000) (disch := omega) only [go_sem, *]
          try omega
        · rw [chain, if_neg (fun q => c2 q.2.2), List.append_nil] at hch
          subst hch
          have c2' : hgtA l.H rn ≤ lv := by omega
          clear hstep ih hset hgD c2
          repeat' first | simp (maxSteps := 2000000) (disch := omega) only [go_sem, *, Try.results71, heightS, heightV] | (first | apply xg1 | apply xc1 | apply xg2 | apply xc2 | apply xc3 | apply xc4 | apply xg3 | apply xg4) <;> intro _
          exact ⟨_, rfl⟩
    · have hnil : chain l W lv t S rn = [] := by
        cases t with
        | zero => rfl
        | succ t => rw [chain, if_neg]; exact fun q => c1 q.1
      rw [hnil, List.append_nil] at hch
      subst hch
      clear ih hstep hset hgD
      repeat' first | simp (maxSteps := 2000000) (disch := omega) only [go_sem, *, Try.results71] | (first | apply xg1 | apply xc1 | apply xg2 | apply xc2 | apply xc3 | apply xc4 | apply xg3 | apply xg4) <;> intro _
      exact ⟨_, rfl⟩
end Go.Proofs.Ytapcgfakefmemaa
set_option linter.unusedVariables false
set_option linter.unusedSimpArgs false
namespace Go.Proofs.Ytapcgfakefmemaa
open Go.Am
theorem EvK_gen {z : Zx} {c : Code} {K : List KF} {m : Tm} {h : PT ABlk} {n : Nat} (Q : Tm → Prop) (hp : Q m) (H : ∀ m', Q m' → EvK z c K m' h n) : EvK z c K m h n := H m hp
theorem EvK_range' {z : Zx} {K : List KF} {m : Tm} {h : PT ABlk} {n : Nat} {g : Operand} {ps : Array Tmp} {ac bd : Code} {f : FuncId} {args : List Value} {fn : Fn} {first captured : Array Value} {R : PT ABlk → Nat → Prop} (hn : m.n = z.N) (hro : z.ro = none) (hg : opFlat g = true) (he : m.eval g = .func fn first captured)
    (hc : aInvoke z.P fn captured.toList (first.toList ++ [.func (.yield (n + 1)) ⟨[]⟩ ⟨[]⟩]) = .pure (.enter f args)) (hO : z.O f args = none)
    (hB : EvB z.P z.O f args ((h.set n (some .deferred)).set (n + 1) (some (.loop .ready none m ps.toList ac bd))) (n + 2) fun _ h' n' => R h' n' ∧ h'.get (n + 1) = some (.loop .ready none m ps.toList ac bd))
    (hk : ∀ h' n', R h' n' → Rs z K .normal (setD m (n :: m.dfs)) (h'.set (n + 1) (some (.loop .exhausted none m ps.toList ac bd))) n') : EvK z (.rangeFunc g ps ac bd) K m h n :=
  EvK_range hn hro hg he hc hO hB fun v h' n' r => ⟨r.2, hk h' n' r.1⟩
theorem RoundB_at {P : Program} {O : Over} {h : PT ABlk} {n : Nat} {l N : Nat} {m0 : Tm} {ac bd : Code} {R : Bool → PT ABlk → Nat → Prop} {tm : Tm} {ps : List Tmp}
    (H : ∀ z0 : Zx, z0.P = P → z0.O = O → z0.ro = some l → z0.N = N → z0.Q = (fun e m1 h1 n1 => e = .normal ∧ h1.get l = some (.loop .ready none tm ps ac bd) ∧
      ∀ z1 : Zx, z1.P = P → z1.O = O → z1.ro = some l → z1.N = N → z1.Q = (fun e2 m2 h2 n2 => h2.get l = some (.loop .busy none tm ps ac bd) ∧ R (exitCode e2).isNone (h2.set l (some (.loop (cond (exitCode e2).isNone .ready .done) (exitCode e2) tm ps ac bd))) n2) →
        EvK z1 bd [] m1 (h1.set l (some (.loop .busy none tm ps ac bd))) n1) → EvK z0 ac [] m0 h n) : RoundB P O l m0 ac bd h n R := RoundB_of H
@[go_sem] theorem exitCode_normal : exitCode .normal = none := rfl
def lst (l : LayV) (W : List Int) (v lv : Int) : List Int := chain l W lv (l.H.length + 1) (List.replicate (l.H.length + 1) false) (aft l W (-1 - v) lv)
theorem listB0 {O : Over} (tb : Nat) (v lv : Int) (h : PT ABlk) (N : Nat) : EvB Try.prog O 38 [.pointer (some ⟨tb, 0, none⟩), .int .i64 v, .int .i64 lv] h N fun r h' n' => r = .func (.func 71) ⟨[]⟩ ⟨[.pointer (some ⟨N, 0, none⟩), .pointer (some ⟨N + 1, 0, none⟩), .pointer (some ⟨N + 2, 0, none⟩)]⟩ ∧ n' = N + 3 ∧
    h' = ((h.set N (some (.cells (PT.ofList .leaf 0 [.pointer (some ⟨tb, 0, none⟩)]) false))).set (N + 1) (some (.cells (PT.ofList .leaf 0 [.int .i64 v]) false))).set (N + 2) (some (.cells (PT.ofList .leaf 0 [.int .i64 lv]) false)) := by
  refine EvB_run (N := 8) Try.func38 rfl rfl fun z hP hO hro hN hQ => ?_
  repeat' first | simp (maxSteps := 2000000) (disch := first | omega | assumption | exact Kept.refl _) only [go_sem, *, Try.results38] | (first | apply xg1 | apply xc1 | apply xg2 | apply xc2 | apply xc3 | apply xc4 | apply xg3 | apply xg4) <;> intro _
structure ApI (h0 : PT ABlk) (N : Nat) (ws : List Int) (h : PT ABlk) (n : Nat) : Prop where
  out : ∃ sl, h.get N = some (.cells (PT.ofList .leaf 0 [sl]) false) ∧ GrowInts .i64 h (N + 4) sl ws
  dfr : h.get (N + 1) = some .deferred
  kept : Kept h0 h
set_option maxRecDepth 100000 in
set_option maxHeartbeats 4000000 in
theorem appendSeqB {O : Over} (oN : O 18 = nextS) (oT : O 40 = towersS) (oH : O 12 = heightS) (o11 : O 11 = fun _ => none) (o39 : O 39 = towPeekS) (o71 : O 71 = fun _ => none)
    (p1 p2 p3 tb mb lb wb : Nat) (l : LayV) (W : List Int) (lg : Value) (v lv : Int) (h : PT ABlk) (N : Nat) (hW : WfH h N)
    (h1 : h.get p1 = some (.cells (PT.ofList .leaf 0 [.pointer (some ⟨tb, 0, none⟩)]) false)) (h2 : h.get p2 = some (.cells (PT.ofList .leaf 0 [.int .i64 v]) false)) (h3 : h.get p3 = some (.cells (PT.ofList .leaf 0 [.int .i64 lv]) false))
    (ht : h.get tb = some (.cells (PT.ofList .leaf 0 [.pointer (some ⟨mb, 0, none⟩), .pointer (some ⟨lb, 0, none⟩)]) false)) (hM : IsMem h mb wb W lg) (hl : (rdL (.pointer (some ⟨lb, 0, none⟩))).look h = some l) (hu : ∀ x ∈ W, 0 ≤ x ∧ x < 18446744073709551616) (hH : l.H.length ≤ 2000) (hv : 0 ≤ v ∧ v ≤ 1000) :
    EvB Try.prog O 70 [.slice none 0 0, .func (.func 71) ⟨[]⟩ ⟨[.pointer (some ⟨p1, 0, none⟩), .pointer (some ⟨p2, 0, none⟩), .pointer (some ⟨p3, 0, none⟩)]⟩] h N fun r h' n' => GrowInts .i64 h' N r (lst l W v lv) ∧ Kept h h' := by
  refine EvB_runD (N := 13) Try.func70 rfl rfl fun z hP hO hro hN hQ => ?_
  repeat' first | simp (maxSteps := 2000000) (disch := first | omega | assumption | exact Kept.refl _) only [go_sem, *, Try.results70] | (first | apply xg1 | apply xc1 | apply xg2 | apply xc2 | apply xc3 | apply xc4 | apply xg3 | apply xg4) <;> intro _
  refine EvK_gen (fun m' => m'.n = 13 ∧ m'.dfs = [] ∧ m'.get 2 = .pointer (some ⟨N, 0, none⟩) ∧ m'.get 6 = .func (.func 71) ⟨[]⟩ ⟨[.pointer (some ⟨p1, 0, none⟩), .pointer (some ⟨p2, 0, none⟩), .pointer (some ⟨p3, 0, none⟩)]⟩) ?_ ?_
  · simp (maxSteps := 2000000) (disch := first | omega | assumption | exact Kept.refl _) only [go_sem, *]
  rintro m ⟨m1, m2, m3, m4⟩
  generalize hhr : PT.set h N _ = hr
  have e1 : hr.get N = some (.cells (PT.ofList .leaf 0 [.slice none 0 0]) false) := get_of_set hhr
  have hWr : WfH hr (N + 1) := by rw [← hhr]; exact hW.set (by omega) (by omega)
  have hkr : Kept h hr := by rw [← hhr]; exact hW.kept (Nat.le_refl _)
  clear hhr
  refine EvK_range' (f := 71) (args := [.func (.yield (N + 2)) ⟨[]⟩ ⟨[]⟩, .pointer (some ⟨p1, 0, none⟩), .pointer (some ⟨p2, 0, none⟩), .pointer (some ⟨p3, 0, none⟩)]) (R := fun h' n' => ApI h N (lst l W v lv) h' n' ∧ WfH h' n' ∧ N + 4 ≤ n') (by rw [m1, hN]) hro rfl m4 (by rw [hP]; rfl) (by rw [hO, o71]) ?_ ?_
  · rw [hP, hO]
    refine (listIt oN oT oH o11 o39 (N + 2) p1 p2 p3 tb mb lb wb l W lg v lv m 7 (by omega) _ _ (fun ws h' n' => ApI h N ws h' n') h _ (N + 3) (WfH.set' (by omega) (hWr.set (by omega) (by omega))) (Kept.set' hW (by omega) (Kept.set' hW (by omega) hkr)) h1 h2 h3 ht hM hl hu hH hv heap_same ?_ ?_ ?_ ?_).mono fun r h' n' q => ⟨⟨q.1, q.2.2.1, by have := q.2.2.2; omega⟩, q.2.1⟩
    · intro x
      refine ⟨⟨.slice none 0 0, ?_, .inl ⟨rfl, rfl⟩⟩, ?_, Kept.set' hW (by omega) (Kept.set' hW (by omega) (Kept.set' hW (by omega) hkr))⟩
      · simp (disch := omega) only [heap_ne]; exact e1
      · rw [heap_ne (by omega), heap_ne (by omega)]; exact heap_same
    · rintro ws h' n' ⟨_, _, q⟩; exact q
    · rintro ws h' n' x ⟨⟨sl, o1, o2⟩, o4, o5⟩
      exact ⟨⟨sl, by rw [heap_ne (by omega)]; exact o1, o2.low (by omega)⟩, by rw [heap_ne (by omega)]; exact o4, Kept.set' hW (by omega) o5⟩
    · rintro ws r h' n' hW' hN' ⟨⟨sl, o1, o2⟩, o4, o5⟩ hwl hr hlp
      have hsn : ws.map (Value.int .i64) ++ [.int .i64 r] = (ws ++ [r]).map (.int .i64) := by simp
      refine RoundB_at (N := 13) (tm := m) (ps := [7]) fun z0 h0P h0O h0ro h0N h0Q => ?_
      repeat' first | simp (maxSteps := 2000000) (disch := first | omega | assumption | exact Kept.refl _) only [go_sem, *, Try.results70] | (first | apply xg1 | apply xc1 | apply xg2 | apply xc2 | apply xc3 | apply xc4 | apply xg3 | apply xg4) <;> intro _
      intro z1 h1P h1O h1ro h1N h1Q
      clear h0P h0O h0ro h0N h0Q hQ hP hO hro hN oN oT oH o11 o39 o71 e1 hl hu h1 h2 h3 ht hM hr
      rcases o2 with ⟨rfl, rfl⟩ | ⟨g, rfl, g1, g3⟩
      · repeat' first | simp (maxSteps := 2000000) (disch := first | omega | assumption | exact Kept.refl _) only [go_sem, *, Try.results70] | (first | apply xg1 | apply xc1 | apply xg2 | apply xc2 | apply xc3 | apply xc4 | apply xg3 | apply xg4) <;> intro _
        refine ⟨⟨⟨.slice (some ⟨n' + 1, 0, none⟩) 1 (capInf + 1), by simp (disch := omega) only [heap_ne, heap_same], .inr ⟨n' + 1, rfl, by omega, by simp (disch := omega) only [heap_ne, heap_same]; rfl⟩⟩, by simp (disch := omega) only [heap_ne]; exact o4, ?_⟩, ?_, by omega⟩
        · exact Kept.set' hW (by omega) (Kept.set' hW (by omega) (Kept.set' hW (by omega) (Kept.set' hW (by omega) (Kept.set' hW (by omega) o5))))
        · exact WfH.set' (by omega) (WfH.set' (by omega) (WfH.set' (by omega) (WfH.set' (by omega) (hW'.mono (by omega) |>.set (Nat.le_refl _) (by omega)))))
      · have hgn := hW'.lt g3
        have htk : List.take ws.length (ws.map (Value.int .i64)) = ws.map (.int .i64) := take_map_self
        have hml : (ws.map (Value.int .i64)).length = ws.length := List.length_map _
        have hble : Nat.ble (ws.length + 1) 1048576 = true := Nat.ble_eq_true_of_le (by omega)
        have hgN3 : g ≠ N + 2 ∧ g ≠ N ∧ g ≠ N + 1 := by omega
        repeat' first | simp (maxSteps := 2000000) (disch := first | omega | assumption | exact Kept.refl _) only [go_sem, *, Try.results70] | (first | apply xg1 | apply xc1 | apply xg2 | apply xc2 | apply xc3 | apply xc4 | apply xg3 | apply xg4) <;> intro _
        refine ⟨⟨⟨.slice (some ⟨n' + 1, 0, none⟩) (ws.length + 1) (capInf + 1), by simp (disch := omega) only [heap_ne, heap_same], .inr ⟨n' + 1, by rw [List.length_append]; rfl, by omega, by simp (disch := omega) only [heap_ne, heap_same]⟩⟩, by simp (disch := omega) only [heap_ne]; exact o4, ?_⟩, ?_, by omega⟩
        · exact Kept.set' hW (by omega) (Kept.set' hW (by omega) (Kept.set' hW (by omega) (Kept.set' hW (by omega) (Kept.set' hW (by omega) (Kept.set' hW (by omega) o5)))))
        · exact WfH.set' (by omega) (WfH.set' (by omega) (WfH.set' (by omega) (WfH.set' (by omega) (WfH.set' (by omega) (hW'.mono (by omega) |>.set (Nat.le_refl _) (by omega))))))
  · rintro h' n' ⟨⟨⟨sl, o1, o2⟩, o4, o5⟩, hW', hN'⟩
    generalize lst l W v lv = C at *
    have hkd : ∀ g, Kept h (PT.set (PT.set h' (N + 2) g) (N + 1) none) := fun g => Kept.set' hW (by omega) (Kept.set' hW (by omega) o5)
    have hgr : ∀ g, GrowInts .i64 (PT.set (PT.set h' (N + 2) g) (N + 1) none) N sl C := fun g => by
      have := (o2.low (j := N + 2) (B := g) (by omega)).low (j := N + 1) (B := none) (by omega)
      rcases this with q | ⟨b, q1, q2, q3⟩
      · exact .inl q
      · exact .inr ⟨b, q1, by omega, q3⟩
    repeat' first | simp (maxSteps := 2000000) (disch := first | omega | assumption | exact Kept.refl _) only [go_sem, *, Try.results70] | (first | apply xg1 | apply xc1 | apply xg2 | apply xc2 | apply xc3 | apply xc4 | apply xg3 | apply xg4) <;> intro _
theorem collectB {O : Over} (oN : O 18 = nextS) (oT : O 40 = towersS) (oH : O 12 = heightS) (o11 : O 11 = fun _ => none) (o39 : O 39 = towPeekS) (o70 : O 70 = fun _ => none) (o71 : O 71 = fun _ => none)
    (p1 p2 p3 tb mb lb wb : Nat) (l : LayV) (W : List Int) (lg : Value) (v lv : Int) (h : PT ABlk) (N : Nat) (hW : WfH h N)
    (h1 : h.get p1 = some (.cells (PT.ofList .leaf 0 [.pointer (some ⟨tb, 0, none⟩)]) false)) (h2 : h.get p2 = some (.cells (PT.ofList .leaf 0 [.int .i64 v]) false)) (h3 : h.get p3 = some (.cells (PT.ofList .leaf 0 [.int .i64 lv]) false))
    (ht : h.get tb = some (.cells (PT.ofList .leaf 0 [.pointer (some ⟨mb, 0, none⟩), .pointer (some ⟨lb, 0, none⟩)]) false)) (hM : IsMem h mb wb W lg) (hl : (rdL (.pointer (some ⟨lb, 0, none⟩))).look h = some l) (hu : ∀ x ∈ W, 0 ≤ x ∧ x < 18446744073709551616) (hH : l.H.length ≤ 2000) (hv : 0 ≤ v ∧ v ≤ 1000) :
    EvB Try.prog O 37 [.func (.func 71) ⟨[]⟩ ⟨[.pointer (some ⟨p1, 0, none⟩), .pointer (some ⟨p2, 0, none⟩), .pointer (some ⟨p3, 0, none⟩)]⟩] h N fun r h' n' => GrowInts .i64 h' N r (lst l W v lv) ∧ Kept h h' := by
  refine EvB_run (N := 5) Try.func37 rfl rfl fun z hP hO hro hN hQ => ?_
  repeat' first | simp (maxSteps := 2000000) (disch := first | omega | assumption | exact Kept.refl _) only [go_sem, *, Try.results37] | (first | apply xg1 | apply xc1 | apply xg2 | apply xc2 | apply xc3 | apply xc4 | apply xg3 | apply xg4) <;> intro _
  refine EvQ_call ?_ ?_ (by rw [hP, hO]; exact appendSeqB oN oT oH o11 o39 o71 p1 p2 p3 tb mb lb wb l W lg v lv h N hW h1 h2 h3 ht hM hl hu hH hv) ?_
  · simp (maxSteps := 2000000) (disch := first | omega | assumption | exact Kept.refl _) only [go_sem, *]
  · simp (maxSteps := 2000000) (disch := first | omega | assumption | exact Kept.refl _) only [go_sem, *]
  rintro r h' n' ⟨q1, q2⟩
  clear hl hu hM ht
  repeat' first | simp (maxSteps := 2000000) (disch := first | omega | assumption | exact Kept.refl _) only [go_sem, *, Try.results37] | (first | apply xg1 | apply xc1 | apply xg2 | apply xc2 | apply xc3 | apply xc4 | apply xg3 | apply xg4) <;> intro _
set_option maxHeartbeats 1000000 in
theorem listB {O : Over} (oN : O 18 = nextS) (oT : O 40 = towersS) (oH : O 12 = heightS) (o11 : O 11 = fun _ => none) (o39 : O 39 = towPeekS) (o70 : O 70 = fun _ => none) (o71 : O 71 = fun _ => none) (o37 : O 37 = fun _ => none) (o38 : O 38 = fun _ => none)
    (tb mb lb wb : Nat) (l : LayV) (W : List Int) (lg : Value) (v lv : Int) (h : PT ABlk) (N : Nat) (hW : WfH h N)
    (ht : h.get tb = some (.cells (PT.ofList .leaf 0 [.pointer (some ⟨mb, 0, none⟩), .pointer (some ⟨lb, 0, none⟩)]) false)) (hM : IsMem h mb wb W lg) (hl : (rdL (.pointer (some ⟨lb, 0, none⟩))).look h = some l) (hu : ∀ x ∈ W, 0 ≤ x ∧ x < 18446744073709551616) (hH : l.H.length ≤ 2000) (hv : 0 ≤ v ∧ v ≤ 1000) (he : nxtE l (-1 - v) lv = 0) :
    EvB Try.prog O 10 [.pointer (some ⟨tb, 0, none⟩), .int .i64 v, .int .i64 lv] h N fun r h' n' => ∃ s, r = .tuple ⟨[s, .int .i64 0]⟩ ∧ GrowInts .i64 h' N s (lst l W v lv) ∧ Kept h h' := by
  have hvv := hv
  obtain ⟨hv0, hv1⟩ := hv
  have hrl := fun h' hk z f d ops r K m n => @EvV_look _ _ _ _ h' hl z f d ops r K m n hk
  have hnv : ¬ v < 0 := by omega
  refine EvB_run (N := 34) Try.func10 rfl rfl fun z hP hO hro hN hQ => ?_
  repeat' first | simp (maxSteps := 2000000) (disch := first | omega | assumption | exact Kept.refl _) only [go_sem, *, Try.results10, nextS, nextV] | (first | apply xg1 | apply xc1 | apply xg2 | apply xc2 | apply xc3 | apply xc4 | apply xg3 | apply xg4) <;> intro _
  refine EvQ_call ?_ ?_ (by rw [hP, hO]; exact listB0 tb v lv h N) ?_
  · simp (maxSteps := 2000000) (disch := first | omega | assumption | exact Kept.refl _) only [go_sem, *]
  · simp (maxSteps := 2000000) (disch := first | omega | assumption | exact Kept.refl _) only [go_sem, *]
  rintro r h1 n1 ⟨rfl, rfl, hh⟩
  have k1 : Kept h h1 := by rw [hh]; exact Kept.set' hW (by omega) (Kept.set' hW (by omega) (hW.kept (Nat.le_refl _)))
  have e1 : h1.get N = some (.cells (PT.ofList .leaf 0 [.pointer (some ⟨tb, 0, none⟩)]) false) := by rw [hh]; simp (disch := omega) only [heap_ne, heap_same]
  have e2 : h1.get (N + 1) = some (.cells (PT.ofList .leaf 0 [.int .i64 v]) false) := by rw [hh]; simp (disch := omega) only [heap_ne, heap_same]
  have e3 : h1.get (N + 2) = some (.cells (PT.ofList .leaf 0 [.int .i64 lv]) false) := by rw [hh]; exact heap_same
  have w1 : WfH h1 (N + 3) := by rw [hh]; exact WfH.set' (by omega) (WfH.set' (by omega) (hW.set (by omega) (by omega)))
  clear hh
  have hcol := collectB (O := O) oN oT oH o11 o39 o70 o71 N (N + 1) (N + 2) tb mb lb wb l W lg v lv h1 (N + 3) w1 e1 e2 e3 (k1 _ _ ht) (hM.keep k1) (look_keep k1 hl) hu hH hvv
  clear hrl hl hu hM ht e1 e2 e3
  repeat' first | simp (maxSteps := 2000000) (disch := first | omega | assumption | exact Kept.refl _) only [go_sem, *, Try.results10] | (first | apply xg1 | apply xc1 | apply xg2 | apply xc2 | apply xc3 | apply xc4 | apply xg3 | apply xg4) <;> intro _
  refine EvQ_call ?_ ?_ (by rw [hP, hO]; exact hcol) ?_
  · simp (maxSteps := 2000000) (disch := first | omega | assumption | exact Kept.refl _) only [go_sem, *]
  · simp (maxSteps := 2000000) (disch := first | omega | assumption | exact Kept.refl _) only [go_sem, *]
  rintro r h2 n2 ⟨q1, q2⟩
  have q3 := k1.trans q2
  have q4 : GrowInts .i64 h2 N r (lst l W v lv) := by
    rcases q1 with q | ⟨b, p1, p2, p3⟩
    · exact .inl q
    · exact .inr ⟨b, p1, by omega, p3⟩
  clear q1 q2 k1 hcol
  repeat' first | simp (maxSteps := 2000000) (disch := first | omega | assumption | exact Kept.refl _) only [go_sem, *, Try.results10] | (first | apply xg1 | apply xc1 | apply xg2 | apply xc2 | apply xc3 | apply xc4 | apply xg3 | apply xg4) <;> intro _
  exact ⟨r, rfl, q4⟩
end Go.Proofs.Ytapcgfakefmemaa
