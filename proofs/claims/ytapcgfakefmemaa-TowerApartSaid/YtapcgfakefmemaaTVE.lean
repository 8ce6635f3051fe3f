/-
  A part of the proof: contracts of inner functions.
-/
import Derived.Test.YtapcgfakefmemaaTVC
set_option linter.unusedVariables false
set_option linter.unusedSimpArgs false
namespace Go.Proofs.Ytapcgfakefmemaa
open Go.Am
structure Tow (h : PT ABlk) (tb mb lb wb : Nat) (l : LayV) (W : List Int) (lg : Value) (lo : Int) : Prop where
  tow : h.get tb = some (.cells (PT.ofList .leaf 0 [.pointer (some ⟨mb, 0, none⟩), .pointer (some ⟨lb, 0, none⟩)]) false)
  mem : IsMem h mb wb W lg
  look : (rdL (.pointer (some ⟨lb, 0, none⟩))).look h = some l
  u64 : ∀ x ∈ W, 0 ≤ x ∧ x < 18446744073709551616
  len : l.H.length ≤ 1024
  bd : ∀ i, i < l.H.length → 1 ≤ l.H.getD i 0 ∧ l.H.getD i 0 ≤ 6
  cfg : ∃ th sl en bu kd dn s t0 t1 t2 t3 t4 t5 tr ba xs rest, l.S = cfgC th sl en bu kd dn s t0 t1 t2 t3 t4 t5 lo tr ba ++ rest ∧ IsInts .u64 h s xs ∧ xs.length < 1000000
  PL : ∃ q0 q1 q2 q3 q4 q5 q6 q7 q8 q9, l.P = [q0, q1, q2, q3, q4, q5, q6, q7, q8, q9]
  p4 : 0 ≤ l.P.getD 4 0 ∧ l.P.getD 4 0 ≤ 30000
theorem Tow.keep {h h' : PT ABlk} {tb mb lb wb : Nat} {l : LayV} {W : List Int} {lg : Value} {lo : Int} (H : Tow h tb mb lb wb l W lg lo) (k : Kept h h') : Tow h' tb mb lb wb l W lg lo := by
  obtain ⟨h1, h2, h3, h4, h5, h6, ⟨th, sl, en, bu, kd, dn, s, t0, t1, t2, t3, t4, t5, tr, ba, xs, rest, c1, c2, c3⟩, h7, h8⟩ := H
  exact ⟨k _ _ h1, h2.keep k, look_keep k h3, h4, h5, h6, ⟨th, sl, en, bu, kd, dn, s, t0, t1, t2, t3, t4, t5, tr, ba, xs, rest, c1, c2.keep k, c3⟩, h7, h8⟩
theorem wat_U64 {W : List Int} (h : ∀ x ∈ W, 0 ≤ x ∧ x < 18446744073709551616) (a : Int) : U64 (wat W a) := wat_u64 h a
def pDesc (l : LayV) (W : List Int) (st : Int) : Int := if 2 < kd st then wat W (l.P.getD 4 0 + en st) else 0
def pIs (l : LayV) (W : List Int) (lo st : Int) : Bool := chk st && (decide (kd st ≤ 2) || decide (en st < lo)) && prs st (pDesc l W st)
def pVal (l : LayV) (W : List Int) (st val al : Int) : Int := if alt st (pDesc l W st) = true then al else val
set_option maxRecDepth 100000 in
set_option maxHeartbeats 4000000 in
theorem pairB {O : Over} (oPl : O 27 = placesS) (oPk : O 72 = peekS) (o58 : O 58 = fun _ => none) (o93 : O 93 = fun _ => none) (o74 : O 74 = fun _ => none) (o75 : O 75 = fun _ => none) (o83 : O 83 = fun _ => none) (o82 : O 82 = fun _ => none) (o55 : O 55 = fun _ => none) (o89 : O 89 = fun _ => none) (o90 : O 90 = fun _ => none) (o76 : O 76 = fun _ => none) (o77 : O 77 = fun _ => none)
    (tb mb lb wb : Nat) (l : LayV) (W : List Int) (lg : Value) (lo key val al lt st : Int) (nx : Option Addr) (nl nc : Nat) (hst : U64 st) (h : PT ABlk) (N : Nat) (hW : WfH h N) (hT : Tow h tb mb lb wb l W lg lo) :
    EvB Try.prog O 44 [.pointer (some ⟨tb, 0, none⟩), .agg ⟨[.int .u64 key, .int .u64 val, .int .u64 al, .int .u64 lt, .int .u64 st, .slice nx nl nc]⟩] h N fun r h' n' => (∃ k v, r = .tuple ⟨[.agg ⟨[.int .u64 k, .int .u64 v]⟩, .bool (pIs l W lo st)]⟩ ∧ (pIs l W lo st = true → k = key ∧ v = pVal l W st val al)) ∧ Kept h h' := by
  have hchk := checkB (O := O) o93 o74 o75 o83 o82 st hst
  have hkd := kindB (O := O) st hst
  have hen := entryB (O := O) st hst
  have hkr := kd_range hst.1
  have her := en_range hst.1
  have htb := hW.lt hT.tow
  refine EvB_run (N := 68) Try.func44 rfl rfl fun z hP hO hro hN hQ => ?_
  repeat' first | simp (maxSteps := 2000000) (disch := first | omega | assumption | exact Kept.refl _) only [go_sem, *, Try.results44] | (first | apply xg1 | apply xc1 | apply xg2 | apply xc2 | apply xc3 | apply xc4 | apply xg3 | apply xg4) <;> intro _ | (first | apply xh1 | apply xh2 | apply xh3 | apply xh4) <;> intro _ | refine EvK_draw (id := 8) (L := w44_8) (by kernel_rfl) (by kernel_rfl) ?_
  refine EvQ_call ?_ ?_ (by rw [hP, hO]; exact hchk _ _) ?_
  · simp (maxSteps := 2000000) (disch := first | omega | assumption | exact Kept.refl _) only [go_sem, *]
  · simp (maxSteps := 2000000) (disch := first | omega | assumption | exact Kept.refl _) only [go_sem, *]
  rintro r h1 n1 ⟨rfl, hh, hn⟩
  subst hh hn
  cases hc : chk st with
  | false =>
    have hpi : pIs l W lo st = false := by unfold pIs; rw [hc]; rfl
    rw [if_neg (by simp)]
    clear hchk hkd hen hc hT
    repeat' first | simp (maxSteps := 2000000) (disch := first | omega | assumption | exact Kept.refl _) only [go_sem, *, Try.results44] | (first | apply xg1 | apply xc1 | apply xg2 | apply xc2 | apply xc3 | apply xc4 | apply xg3 | apply xg4) <;> intro _ | (first | apply xh1 | apply xh2 | apply xh3 | apply xh4) <;> intro _ | refine EvK_draw (id := 8) (L := w44_8) (by kernel_rfl) (by kernel_rfl) ?_
    refine ⟨⟨0, 0, rfl, fun q => q.elim⟩, ?_⟩
    exact Kept.set' hW (by omega) (Kept.set' hW (by omega) (hW.kept (Nat.le_refl _)))
  | true =>
    rw [if_pos rfl]
    generalize hh1 : PT.set (PT.set h N _) (N + 1) _ = h1
    have e0 : h1.get N = some (.cells (PT.ofList .leaf 0 [.int .u64 key, .int .u64 val, .int .u64 al, .int .u64 lt, .int .u64 st, .slice nx nl nc]) false) := by rw [← hh1, heap_ne (by omega)]; exact heap_same
    have e1 : h1.get (N + 1) = some (.cells (PT.ofList .leaf 0 [.int .u64 0, .int .u64 0]) false) := get_of_set hh1
    have hW1 : WfH h1 (N + 1 + 1) := by rw [← hh1]; exact WfH.set' (by omega) (WfH.set hW (by omega) (by omega))
    have k1 : Kept h h1 := by rw [← hh1]; exact Kept.set' hW (by omega) (hW.kept (Nat.le_refl _))
    clear hh1
    repeat' first | simp (maxSteps := 2000000) (disch := first | omega | assumption | exact Kept.refl _) only [go_sem, *, Try.results44] | (first | apply xg1 | apply xc1 | apply xg2 | apply xc2 | apply xc3 | apply xc4 | apply xg3 | apply xg4) <;> intro _ | (first | apply xh1 | apply xh2 | apply xh3 | apply xh4) <;> intro _ | refine EvK_draw (id := 8) (L := w44_8) (by kernel_rfl) (by kernel_rfl) ?_
    refine EvQ_call ?_ ?_ (by rw [hP, hO]; exact hkd _ _) ?_
    · simp (maxSteps := 2000000) (disch := first | omega | assumption | exact Kept.refl _) only [go_sem, *]
    · simp (maxSteps := 2000000) (disch := first | omega | assumption | exact Kept.refl _) only [go_sem, *]
    rintro r h2 n2 ⟨rfl, hh, hn⟩
    subst hh hn
    by_cases hk : 2 < kd st
    · repeat' first | simp (maxSteps := 2000000) (disch := first | omega | assumption | exact Kept.refl _) only [go_sem, *, Try.results44] | (first | apply xg1 | apply xc1 | apply xg2 | apply xc2 | apply xc3 | apply xc4 | apply xg3 | apply xg4) <;> intro _ | (first | apply xh1 | apply xh2 | apply xh3 | apply xh4) <;> intro _ | refine EvK_draw (id := 8) (L := w44_8) (by kernel_rfl) (by kernel_rfl) ?_
      refine EvQ_call ?_ ?_ (by rw [hP, hO]; exact hen _ _) ?_
      · simp (maxSteps := 2000000) (disch := first | omega | assumption | exact Kept.refl _) only [go_sem, *]
      · simp (maxSteps := 2000000) (disch := first | omega | assumption | exact Kept.refl _) only [go_sem, *]
      rintro r h3 n3 ⟨rfl, hh, hn⟩
      subst hh hn
      have hT3 := hT.keep k1
      obtain ⟨th, sl, en', bu, kd', dn, s, t0, t1, t2, t3, t4, t5, tr, ba, xs, rest, c1, c2, c3⟩ := hT3.cfg
      obtain ⟨ro, hlb, -⟩ := rdL_row hT3.look
      rw [c1] at hlb
      have hT3t := hT3.tow
      have hcf := cfgB (O := O) o58 th sl en' bu kd' dn t0 t1 t2 t3 t4 t5 lo tr ba s xs lb rest ro _ _ hW1 hlb c2 c3
      clear hlb c1 c2 c3
      repeat' first | simp (maxSteps := 2000000) (disch := first | omega | assumption | exact Kept.refl _) only [go_sem, *, Try.results44] | (first | apply xg1 | apply xc1 | apply xg2 | apply xc2 | apply xc3 | apply xc4 | apply xg3 | apply xg4) <;> intro _ | (first | apply xh1 | apply xh2 | apply xh3 | apply xh4) <;> intro _ | refine EvK_draw (id := 8) (L := w44_8) (by kernel_rfl) (by kernel_rfl) ?_
      refine EvQ_call ?_ ?_ (by rw [hP, hO]; exact hcf.wf hW1) ?_
      · simp (maxSteps := 2000000) (disch := first | omega | assumption | exact Kept.refl _) only [go_sem, *]
      · simp (maxSteps := 2000000) (disch := first | omega | assumption | exact Kept.refl _) only [go_sem, *]
      rintro r h4 n4 ⟨⟨⟨s', rfl⟩, k4⟩, hn4, hW4⟩
      have k04 := k1.trans k4
      have hT4 := hT3.keep k4
      have f0 := k4 _ _ e0
      have f1 := k4 _ _ e1
      have f2 := hT4.tow
      clear hcf hT3t
      unfold cfgC
      by_cases hlo : lo ≤ en st
      · have hpi : pIs l W lo st = false := by
          unfold pIs
          rw [hc, decide_eq_false (show ¬ kd st ≤ 2 by omega), decide_eq_false (show ¬ en st < lo by omega)]
          rfl
        clear hchk hkd hen hc hT hT3 hT4 e0 e1 k4
        repeat' first | simp (maxSteps := 2000000) (disch := first | omega | assumption | exact Kept.refl _) only [go_sem, *, Try.results44] | (first | apply xg1 | apply xc1 | apply xg2 | apply xc2 | apply xc3 | apply xc4 | apply xg3 | apply xg4) <;> intro _ | (first | apply xh1 | apply xh2 | apply xh3 | apply xh4) <;> intro _ | refine EvK_draw (id := 8) (L := w44_8) (by kernel_rfl) (by kernel_rfl) ?_
        refine ⟨⟨0, 0, rfl, fun q => q.elim⟩, ?_⟩
        exact Kept.set' hW (by omega) k04
      · obtain ⟨q0, q1, q2, q3, q4, q5, q6, q7, q8, q9, hPL⟩ := hT.PL
        have hp4 := hT.p4
        have hp4' : l.P.getD 4 0 = q4 := by rw [hPL]; rfl
        rw [hp4'] at hp4
        have hpd : pDesc l W st = wat W (q4 + en st) := by unfold pDesc; rw [if_pos hk, hp4']
        have hpi : pIs l W lo st = prs st (wat W (q4 + en st)) := by
          unfold pIs
          rw [hc, hpd, decide_eq_true (show en st < lo by omega)]
          simp
        have hDU := wat_U64 hT.u64 (q4 + en st)
        have hlk4 := hT4.look
        have hmk4 := hT4.mem.look
        have hrl := fun h' hk z L f d ops r K m n lo rd wr fs => @EvX_look _ _ _ _ h' hlk4 z L f d ops r K m n lo rd wr fs hk
        have hrm := fun h' hk z L f d ops r K m n lo rd wr fs => @EvX_look _ _ _ _ h' hmk4 z L f d ops r K m n lo rd wr fs hk
        have k1 := k04
        clear e0 e1 k4 hT3
        repeat' first | simp (maxSteps := 2000000) (disch := first | omega | assumption | exact Kept.refl _) only [go_sem, *, Try.results44, placesS, peekS, List.map_cons, List.map_nil] | (first | apply xg1 | apply xc1 | apply xg2 | apply xc2 | apply xc3 | apply xc4 | apply xg3 | apply xg4) <;> intro _ | (first | apply xh1 | apply xh2 | apply xh3 | apply xh4) <;> intro _ | refine EvK_draw (id := 8) (L := w44_8) (by kernel_rfl) (by kernel_rfl) ?_
        refine EvQ_call ?_ ?_ (by rw [hP, hO]; exact decideB o93 o74 o75 o83 o82 o55 o89 o90 st (wat W (q4 + en st)) hst hDU hc _ _) ?_
        · simp (maxSteps := 2000000) (disch := first | omega | assumption | exact Kept.refl _) only [go_sem, *]
        · simp (maxSteps := 2000000) (disch := first | omega | assumption | exact Kept.refl _) only [go_sem, *]
        rintro r h9 n9 ⟨⟨e, rfl⟩, hh, hn⟩
        subst hh hn
        clear hchk hkd hen hc hT hT4 hrl hrm hlk4 hmk4
        unfold pVal at hQ
        rw [hpi, hpd] at hQ
        generalize prs st (wat W (q4 + en st)) = P1 at *
        generalize alt st (wat W (q4 + en st)) = A1 at *
        cases A1 with
        | true =>
          repeat' first | simp (maxSteps := 2000000) (disch := first | omega | assumption | exact Kept.refl _) only [go_sem, *, Try.results44] | (first | apply xg1 | apply xc1 | apply xg2 | apply xc2 | apply xc3 | apply xc4 | apply xg3 | apply xg4) <;> intro _ | (first | apply xh1 | apply xh2 | apply xh3 | apply xh4) <;> intro _ | refine EvK_draw (id := 8) (L := w44_8) (by kernel_rfl) (by kernel_rfl) ?_
          refine ⟨⟨key, _, rfl, fun _ => ⟨rfl, rfl⟩⟩, ?_⟩
          repeat first | exact k1 | refine Kept.set' hW (by omega) ?_
        | false =>
          repeat' first | simp (maxSteps := 2000000) (disch := first | omega | assumption | exact Kept.refl _) only [go_sem, *, Try.results44] | (first | apply xg1 | apply xc1 | apply xg2 | apply xc2 | apply xc3 | apply xc4 | apply xg3 | apply xg4) <;> intro _ | (first | apply xh1 | apply xh2 | apply xh3 | apply xh4) <;> intro _ | refine EvK_draw (id := 8) (L := w44_8) (by kernel_rfl) (by kernel_rfl) ?_
          refine ⟨⟨key, _, rfl, fun _ => ⟨rfl, rfl⟩⟩, ?_⟩
          repeat first | exact k1 | refine Kept.set' hW (by omega) ?_
    · have hpd : pDesc l W st = 0 := if_neg hk
      have hpi : pIs l W lo st = prs st 0 := by
        unfold pIs
        rw [hc, hpd, decide_eq_true (show kd st ≤ 2 by omega)]
        rfl
      have hDU : U64 0 := by unfold U64; omega
      repeat' first | simp (maxSteps := 2000000) (disch := first | omega | assumption | exact Kept.refl _) only [go_sem, *, Try.results44] | (first | apply xg1 | apply xc1 | apply xg2 | apply xc2 | apply xc3 | apply xc4 | apply xg3 | apply xg4) <;> intro _ | (first | apply xh1 | apply xh2 | apply xh3 | apply xh4) <;> intro _ | refine EvK_draw (id := 8) (L := w44_8) (by kernel_rfl) (by kernel_rfl) ?_
      refine EvQ_call ?_ ?_ (by rw [hP, hO]; exact decideB o93 o74 o75 o83 o82 o55 o89 o90 st 0 hst hDU hc _ _) ?_
      · simp (maxSteps := 2000000) (disch := first | omega | assumption | exact Kept.refl _) only [go_sem, *]
      · simp (maxSteps := 2000000) (disch := first | omega | assumption | exact Kept.refl _) only [go_sem, *]
      rintro r h9 n9 ⟨⟨e, rfl⟩, hh, hn⟩
      subst hh hn
      clear hchk hkd hen hc hT
      unfold pVal at hQ
      rw [hpi, hpd] at hQ
      generalize prs st 0 = P1 at *
      generalize alt st 0 = A1 at *
      cases A1 with
      | true =>
        repeat' first | simp (maxSteps := 2000000) (disch := first | omega | assumption | exact Kept.refl _) only [go_sem, *, Try.results44] | (first | apply xg1 | apply xc1 | apply xg2 | apply xc2 | apply xc3 | apply xc4 | apply xg3 | apply xg4) <;> intro _ | (first | apply xh1 | apply xh2 | apply xh3 | apply xh4) <;> intro _ | refine EvK_draw (id := 8) (L := w44_8) (by kernel_rfl) (by kernel_rfl) ?_
        refine ⟨⟨key, _, rfl, fun _ => ⟨rfl, rfl⟩⟩, ?_⟩
        repeat first | exact k1 | refine Kept.set' hW (by omega) ?_
      | false =>
        repeat' first | simp (maxSteps := 2000000) (disch := first | omega | assumption | exact Kept.refl _) only [go_sem, *, Try.results44] | (first | apply xg1 | apply xc1 | apply xg2 | apply xc2 | apply xc3 | apply xc4 | apply xg3 | apply xg4) <;> intro _ | (first | apply xh1 | apply xh2 | apply xh3 | apply xh4) <;> intro _ | refine EvK_draw (id := 8) (L := w44_8) (by kernel_rfl) (by kernel_rfl) ?_
        refine ⟨⟨key, _, rfl, fun _ => ⟨rfl, rfl⟩⟩, ?_⟩
        repeat first | exact k1 | refine Kept.set' hW (by omega) ?_
end Go.Proofs.Ytapcgfakefmemaa
set_option linter.unusedVariables false
set_option linter.unusedSimpArgs false
namespace Go.Proofs.Ytapcgfakefmemaa
open Go.Am
def wd (l : LayV) (W : List Int) (n w : Int) : Int := wat W (wrdA l n w)
theorem wrdE_ok {l : LayV} {n w : Int} (h1 : 1 ≤ n ∧ n ≤ l.H.length) (h2 : 0 ≤ w ∧ w ≤ 4) : wrdE l n w = 0 := if_pos ⟨h1, h2⟩
set_option maxHeartbeats 1000000 in
theorem towerWB {O : Over} (oW : O 24 = wordS) (oP : O 39 = towPeekS) (p1 p2 tb mb lb wb : Nat) (l : LayV) (W : List Int) (lg : Value) (lo n w : Int) (hn : 1 ≤ n ∧ n ≤ l.H.length) (hw : 0 ≤ w ∧ w ≤ 4) (h : PT ABlk) (N : Nat) (hT : Tow h tb mb lb wb l W lg lo)
    (h1 : h.get p1 = some (.cells (PT.ofList .leaf 0 [.pointer (some ⟨tb, 0, none⟩)]) false)) (h2 : h.get p2 = some (.cells (PT.ofList .leaf 0 [.int .i64 n]) false)) :
    EvB Try.prog O 73 [.int .i64 w, .pointer (some ⟨p1, 0, none⟩), .pointer (some ⟨p2, 0, none⟩)] h N fun r h' n' => r = .int .u64 (wd l W n w) ∧ h' = h ∧ n' = N := by
  have hwe := wrdE_ok hn hw
  have htw := hT.tow
  have hlk4 := hT.look
  have hmk4 := hT.mem.look
  have hrl := fun h' hk z L f d ops r K m n lo rd wr fs => @EvX_look _ _ _ _ h' hlk4 z L f d ops r K m n lo rd wr fs hk
  have hrm := fun h' hk z L f d ops r K m n lo rd wr fs => @EvX_look _ _ _ _ h' hmk4 z L f d ops r K m n lo rd wr fs hk
  clear hT hlk4 hmk4
  unfold wd
  refine EvB_run (N := 16) Try.func73 rfl rfl fun z hP hO hro hN hQ => ?_
  repeat' first | simp (maxSteps := 2000000) (disch := first | omega | (repeat first | assumption | exact Kept.refl _ | refine Kept.set' (by assumption) ?_ ?_ | refine Kept.set (by assumption) ?_ ?_ | omega)) only [go_sem, *, Try.results73, wordS, wordV, towPeekS] | (first | apply xg1 | apply xc1 | apply xg2 | apply xc2 | apply xc3 | apply xc4 | apply xg3 | apply xg4) <;> intro _ | (first | apply xh1 | apply xh2 | apply xh3 | apply xh4) <;> intro _ | refine EvK_draw (id := 1) (L := w73_1) (by kernel_rfl) (by kernel_rfl) ?_
theorem hgt_in {l : LayV} {n : Int} (h1 : 1 ≤ n ∧ n ≤ l.H.length) : hgtA l.H n = l.H.getD (n - 1).toNat 0 ∧ hgtE l.H n = 0 := ⟨if_pos h1, if_pos h1⟩
set_option maxRecDepth 100000 in
set_option maxHeartbeats 4000000 in
theorem towerB {O : Over} (oW : O 24 = wordS) (oP : O 39 = towPeekS) (oH : O 12 = heightS) (oN : O 18 = nextS) (o73 : O 73 = fun _ => none) (tb mb lb wb : Nat) (l : LayV) (W : List Int) (lg : Value) (lo n : Int) (hn : 1 ≤ n ∧ n ≤ l.H.length) (h : PT ABlk) (N : Nat) (hW : WfH h N) (hT : Tow h tb mb lb wb l W lg lo) :
    EvB Try.prog O 43 [.pointer (some ⟨tb, 0, none⟩), .int .i64 n] h N fun r h' n' => (∃ x k c, r = .tuple ⟨[.agg ⟨[.int .u64 (wd l W n 0), .int .u64 (wd l W n 1), .int .u64 (wd l W n 2), .int .u64 (wd l W n 3), .int .u64 (wd l W n 4), .slice x k c]⟩, .int .i64 0]⟩) ∧ Kept h h' := by
  obtain ⟨hh1, hh2⟩ := hgt_in hn
  have hbd := hT.bd (n - 1).toNat (by omega)
  rw [← hh1] at hbd
  have htb := hW.lt hT.tow
  refine EvB_run (N := 61) Try.func43 rfl rfl fun z hP hO hro hN hQ => ?_
  have htw := hT.tow
  have hlk4 := hT.look
  have hrl := fun h' hk z L f d ops r K m n lo rd wr fs => @EvX_look _ _ _ _ h' hlk4 z L f d ops r K m n lo rd wr fs hk
  clear hh1
  repeat' first | simp (maxSteps := 2000000) (disch := first | omega | (repeat first | assumption | exact Kept.refl _ | refine Kept.set' (by assumption) ?_ ?_ | refine Kept.set (by assumption) ?_ ?_ | omega)) only [go_sem, *, Try.results43, heightS, heightV] | (first | apply xg1 | apply xc1 | apply xg2 | apply xc2 | apply xc3 | apply xc4 | apply xg3 | apply xg4) <;> intro _ | (first | apply xh1 | apply xh2 | apply xh3 | apply xh4) <;> intro _ | refine EvK_draw (id := 3) (L := w43_3) (by kernel_rfl) (by kernel_rfl) ?_ | refine EvK_draw (id := 11) (L := w43_11) (by kernel_rfl) (by kernel_rfl) ?_
  generalize hh1 : PT.set (PT.set (PT.set h N _) (N + 1) _) (N + 1 + 1) _ = h1
  have e0 : h1.get N = some (.cells (PT.ofList .leaf 0 [.pointer (some ⟨tb, 0, none⟩)]) false) := by rw [← hh1, heap_ne (by omega), heap_ne (by omega)]; exact heap_same
  have e1 : h1.get (N + 1) = some (.cells (PT.ofList .leaf 0 [.int .i64 n]) false) := by rw [← hh1, heap_ne (by omega)]; exact heap_same
  have e2 : h1.get (N + 1 + 1) = some (.cells (PT.ofList .leaf 0 [.int .u64 0, .int .u64 0, .int .u64 0, .int .u64 0, .int .u64 0, .slice none 0 0]) false) := get_of_set hh1
  have hW1 : WfH h1 (N + 1 + 1 + 1) := by rw [← hh1]; exact WfH.set' (by omega) (WfH.set (WfH.set hW (Nat.le_succ N) (by omega)) (by omega) (by omega))
  have k1 : Kept h h1 := by rw [← hh1]; exact Kept.set' hW (by omega) (Kept.set' hW (by omega) (hW.kept (Nat.le_refl _)))
  have hw5 := fun w hw => towerWB (O := O) oW oP N (N + 1) tb mb lb wb l W lg lo n w hn hw h1 (N + 1 + 1 + 1) (hT.keep k1) e0 e1
  clear hh1 hrl
  refine EvQ_call ?_ ?_ (by rw [hP, hO]; exact hw5 0 (by omega)) ?_
  · simp (maxSteps := 2000000) (disch := first | omega | (repeat first | assumption | exact Kept.refl _ | refine Kept.set' (by assumption) ?_ ?_ | refine Kept.set (by assumption) ?_ ?_ | omega)) only [go_sem, *]
  · simp (maxSteps := 2000000) (disch := first | omega | (repeat first | assumption | exact Kept.refl _ | refine Kept.set' (by assumption) ?_ ?_ | refine Kept.set (by assumption) ?_ ?_ | omega)) only [go_sem, *]
  rintro r h9 n9 ⟨rfl, hh, hn'⟩
  subst hh hn'
  repeat' first | simp (maxSteps := 2000000) (disch := first | omega | (repeat first | assumption | exact Kept.refl _ | refine Kept.set' (by assumption) ?_ ?_ | refine Kept.set (by assumption) ?_ ?_ | omega)) only [go_sem, *, Try.results43] | (first | apply xg1 | apply xc1 | apply xg2 | apply xc2 | apply xc3 | apply xc4 | apply xg3 | apply xg4) <;> intro _ | (first | apply xh1 | apply xh2 | apply xh3 | apply xh4) <;> intro _ | refine EvK_draw (id := 3) (L := w43_3) (by kernel_rfl) (by kernel_rfl) ?_ | refine EvK_draw (id := 11) (L := w43_11) (by kernel_rfl) (by kernel_rfl) ?_
  refine EvQ_call ?_ ?_ (by rw [hP, hO]; exact hw5 1 (by omega)) ?_
  · simp (maxSteps := 2000000) (disch := first | omega | (repeat first | assumption | exact Kept.refl _ | refine Kept.set' (by assumption) ?_ ?_ | refine Kept.set (by assumption) ?_ ?_ | omega)) only [go_sem, *]
  · simp (maxSteps := 2000000) (disch := first | omega | (repeat first | assumption | exact Kept.refl _ | refine Kept.set' (by assumption) ?_ ?_ | refine Kept.set (by assumption) ?_ ?_ | omega)) only [go_sem, *]
  rintro r h9 n9 ⟨rfl, hh, hn'⟩
  subst hh hn'
  repeat' first | simp (maxSteps := 2000000) (disch := first | omega | (repeat first | assumption | exact Kept.refl _ | refine Kept.set' (by assumption) ?_ ?_ | refine Kept.set (by assumption) ?_ ?_ | omega)) only [go_sem, *, Try.results43] | (first | apply xg1 | apply xc1 | apply xg2 | apply xc2 | apply xc3 | apply xc4 | apply xg3 | apply xg4) <;> intro _ | (first | apply xh1 | apply xh2 | apply xh3 | apply xh4) <;> intro _ | refine EvK_draw (id := 3) (L := w43_3) (by kernel_rfl) (by kernel_rfl) ?_ | refine EvK_draw (id := 11) (L := w43_11) (by kernel_rfl) (by kernel_rfl) ?_
  refine EvQ_call ?_ ?_ (by rw [hP, hO]; exact hw5 2 (by omega)) ?_
  · simp (maxSteps := 2000000) (disch := first | omega | (repeat first | assumption | exact Kept.refl _ | refine Kept.set' (by assumption) ?_ ?_ | refine Kept.set (by assumption) ?_ ?_ | omega)) only [go_sem, *]
  · simp (maxSteps := 2000000) (disch := first | omega | (repeat first | assumption | exact Kept.refl _ | refine Kept.set' (by assumption) ?_ ?_ | refine Kept.set (by assumption) ?_ ?_ | omega)) only [go_sem, *]
  rintro r h9 n9 ⟨rfl, hh, hn'⟩
  subst hh hn'
  repeat' first | simp (maxSteps := 2000000) (disch := first | omega | (repeat first | assumption | exact Kept.refl _ | refine Kept.set' (by assumption) ?_ ?_ | refine Kept.set (by assumption) ?_ ?_ | omega)) only [go_sem, *, Try.results43] | (first | apply xg1 | apply xc1 | apply xg2 | apply xc2 | apply xc3 | apply xc4 | apply xg3 | apply xg4) <;> intro _ | (first | apply xh1 | apply xh2 | apply xh3 | apply xh4) <;> intro _ | refine EvK_draw (id := 3) (L := w43_3) (by kernel_rfl) (by kernel_rfl) ?_ | refine EvK_draw (id := 11) (L := w43_11) (by kernel_rfl) (by kernel_rfl) ?_
  refine EvQ_call ?_ ?_ (by rw [hP, hO]; exact hw5 3 (by omega)) ?_
  · simp (maxSteps := 2000000) (disch := first | omega | (repeat first | assumption | exact Kept.refl _ | refine Kept.set' (by assumption) ?_ ?_ | refine Kept.set (by assumption) ?_ ?_ | omega)) only [go_sem, *]
  · simp (maxSteps := 2000000) (disch := first | omega | (repeat first | assumption | exact Kept.refl _ | refine Kept.set' (by assumption) ?_ ?_ | refine Kept.set (by assumption) ?_ ?_ | omega)) only [go_sem, *]
  rintro r h9 n9 ⟨rfl, hh, hn'⟩
  subst hh hn'
  repeat' first | simp (maxSteps := 2000000) (disch := first | omega | (repeat first | assumption | exact Kept.refl _ | refine Kept.set' (by assumption) ?_ ?_ | refine Kept.set (by assumption) ?_ ?_ | omega)) only [go_sem, *, Try.results43] | (first | apply xg1 | apply xc1 | apply xg2 | apply xc2 | apply xc3 | apply xc4 | apply xg3 | apply xg4) <;> intro _ | (first | apply xh1 | apply xh2 | apply xh3 | apply xh4) <;> intro _ | refine EvK_draw (id := 3) (L := w43_3) (by kernel_rfl) (by kernel_rfl) ?_ | refine EvK_draw (id := 11) (L := w43_11) (by kernel_rfl) (by kernel_rfl) ?_
  refine EvQ_call ?_ ?_ (by rw [hP, hO]; exact hw5 4 (by omega)) ?_
  · simp (maxSteps := 2000000) (disch := first | omega | (repeat first | assumption | exact Kept.refl _ | refine Kept.set' (by assumption) ?_ ?_ | refine Kept.set (by assumption) ?_ ?_ | omega)) only [go_sem, *]
  · simp (maxSteps := 2000000) (disch := first | omega | (repeat first | assumption | exact Kept.refl _ | refine Kept.set' (by assumption) ?_ ?_ | refine Kept.set (by assumption) ?_ ?_ | omega)) only [go_sem, *]
  rintro r h9 n9 ⟨rfl, hh, hn'⟩
  subst hh hn'
  repeat' first | simp (maxSteps := 2000000) (disch := first | omega | (repeat first | assumption | exact Kept.refl _ | refine Kept.set' (by assumption) ?_ ?_ | refine Kept.set (by assumption) ?_ ?_ | omega)) only [go_sem, *, Try.results43] | (first | apply xg1 | apply xc1 | apply xg2 | apply xc2 | apply xc3 | apply xc4 | apply xg3 | apply xg4) <;> intro _ | (first | apply xh1 | apply xh2 | apply xh3 | apply xh4) <;> intro _ | refine EvK_draw (id := 3) (L := w43_3) (by kernel_rfl) (by kernel_rfl) ?_ | refine EvK_draw (id := 11) (L := w43_11) (by kernel_rfl) (by kernel_rfl) ?_
  clear hw5
  have hrl := fun h' hk z L f d ops r K m n lo rd wr fs => @EvX_look _ _ _ _ h' hlk4 z L f d ops r K m n lo rd wr fs hk
  have hmk4 := hT.mem.look
  have hrm := fun h' hk z L f d ops r K m n lo rd wr fs => @EvX_look _ _ _ _ h' hmk4 z L f d ops r K m n lo rd wr fs hk
  have htw1 := k1 _ _ htw
  clear hT htw hlk4 hmk4 hh2
  have k9 := k1
  generalize wd l W n 0 = w0 at *
  generalize wd l W n 1 = w1 at *
  generalize wd l W n 2 = w2 at *
  generalize wd l W n 3 = w3 at *
  generalize wd l W n 4 = w4 at *
  refine ind_loop (fun t m h' n' => ∃ (i : Nat) (s : Value) (xs : List Int), i ≤ hgtA l.H n ∧ t = (hgtA l.H n).toNat - i ∧ m.n = 61 ∧ m.dfs = [] ∧ m.get 2 = .pointer (some ⟨N, 0, none⟩) ∧ m.get 3 = .pointer (some ⟨N + 1, 0, none⟩) ∧ m.get 4 = .pointer (some ⟨N + 1 + 1, 0, none⟩) ∧ m.get 5 = .int .i64 0 ∧ m.get 9 = .pointer (some ⟨N + 1 + 1 + 1, 0, none⟩) ∧ m.get 39 = .int .i64 (hgtA l.H n) ∧ m.get 40 = .int .i64 i ∧
    h'.get (N + 1 + 1 + 1) = some (.cells (PT.ofList .leaf 0 [.int .u64 w0, .int .u64 w1, .int .u64 w2, .int .u64 w3, .int .u64 w4, s]) false) ∧ GrowInts .u64 h' (N + 1 + 1 + 1 + 1) s xs ∧ xs.length = i ∧ Kept h9 h' ∧ WfH h' n' ∧ N + 1 + 1 + 1 + 1 ≤ n') (hgtA l.H n).toNat ?_ ?_
  · refine ⟨0, .slice none 0 0, [], by omega, by omega, ?_⟩
    clear hrl hrm
    simp (maxSteps := 2000000) (disch := first | omega | (repeat first | assumption | exact Kept.refl _ | refine Kept.set' (by assumption) ?_ ?_ | refine Kept.set (by assumption) ?_ ?_ | omega)) only [go_sem, *]
    exact ⟨.inl ⟨rfl, rfl⟩, Kept.set' hW1 (Nat.le_refl _) (hW1.kept (Nat.le_refl _)), WfH.set' (by omega) (hW1.set (by omega) (by omega)), Nat.le_refl _⟩
  · rintro t m h' n' ih ⟨i, s, xs, hi, rfl, m1, m2, m3, m4, m5, m6, m7, m8, m9, q1, q2, q3, q4, q5, q6⟩
    have f0 := q4 _ _ e0
    have f1 := q4 _ _ e1
    have f2 := q4 _ _ e2
    have f3 := q4 _ _ htw1
    have kh := k9.trans q4
    have ci : ((i + 1 : Nat) : Int) = (i : Int) + 1 := by omega
    by_cases hlt : (i : Int) < hgtA l.H n
    · rcases q2 with ⟨rfl, rfl⟩ | ⟨g, rfl, g1, g3⟩
      · repeat' first | simp (maxSteps := 2000000) (disch := first | omega | (repeat first | assumption | exact Kept.refl _ | refine Kept.set' (by assumption) ?_ ?_ | refine Kept.set (by assumption) ?_ ?_ | omega)) only [go_sem, *, Try.results43, nextS, nextV, towPeekS] | (first | apply xg1 | apply xc1 | apply xg2 | apply xc2 | apply xc3 | apply xc4 | apply xg3 | apply xg4) <;> intro _ | (first | apply xh1 | apply xh2 | apply xh3 | apply xh4) <;> intro _ | refine EvK_draw (id := 3) (L := w43_3) (by kernel_rfl) (by kernel_rfl) ?_ | refine EvK_draw (id := 11) (L := w43_11) (by kernel_rfl) (by kernel_rfl) ?_
        refine ih ((hgtA l.H n).toNat - (i + 1)) _ _ _ (by omega) ⟨i + 1, .slice (some ⟨n' + 1, 0, none⟩) 1 (capInf + 1), [if nxtE l n (i : Int) = 0 then wat W (nxtA l n (i : Int)) else 0], by omega, rfl, ?_⟩
        rw [ci]
        clear ih hrl hrm
        simp (maxSteps := 2000000) (disch := first | omega | (repeat first | assumption | exact Kept.refl _ | refine Kept.set' (by assumption) ?_ ?_ | refine Kept.set (by assumption) ?_ ?_ | omega)) only [go_sem, *]
        refine ⟨.inr ⟨n' + 1, rfl, by omega, by rw [heap_ne (by omega)]; exact heap_same⟩, ?_, ?_, by omega⟩
        · exact Kept.set' hW1 (by omega) (Kept.set' hW1 (by omega) (Kept.set' hW1 (by omega) q4))
        · exact WfH.set' (by omega) (WfH.set' (by omega) (WfH.set' (by omega) (q5.mono (by omega))))
      · subst q3
        have hgn := q5.lt g3
        have hml : (xs.map (Value.int .u64)).length = xs.length := List.length_map _
        have htk : List.take xs.length (xs.map (Value.int .u64)) = xs.map (.int .u64) := take_map_self
        have hble : Nat.ble (xs.length + 1) 1048576 = true := Nat.ble_eq_true_of_le (by omega)
        have hgN : g ≠ N + 1 + 1 + 1 ∧ g ≠ tb ∧ g ≠ N ∧ g ≠ N + 1 := by omega
        have hsn := fun y => (show xs.map (Value.int .u64) ++ [.int .u64 y] = (xs ++ [y]).map (.int .u64) by simp)
        repeat' first | simp (maxSteps := 2000000) (disch := first | omega | (repeat first | assumption | exact Kept.refl _ | refine Kept.set' (by assumption) ?_ ?_ | refine Kept.set (by assumption) ?_ ?_ | omega)) only [go_sem, *, Try.results43, nextS, nextV, towPeekS] | (first | apply xg1 | apply xc1 | apply xg2 | apply xc2 | apply xc3 | apply xc4 | apply xg3 | apply xg4) <;> intro _ | (first | apply xh1 | apply xh2 | apply xh3 | apply xh4) <;> intro _ | refine EvK_draw (id := 3) (L := w43_3) (by kernel_rfl) (by kernel_rfl) ?_ | refine EvK_draw (id := 11) (L := w43_11) (by kernel_rfl) (by kernel_rfl) ?_
        refine ih ((hgtA l.H n).toNat - (xs.length + 1)) _ _ _ (by omega) ⟨xs.length + 1, .slice (some ⟨n' + 1, 0, none⟩) (xs.length + 1) (capInf + 1), xs ++ [if nxtE l n (xs.length : Int) = 0 then wat W (nxtA l n (xs.length : Int)) else 0], by omega, rfl, ?_⟩
        rw [ci]
        clear ih hrl hrm
        simp (maxSteps := 2000000) (disch := first | omega | (repeat first | assumption | exact Kept.refl _ | refine Kept.set' (by assumption) ?_ ?_ | refine Kept.set (by assumption) ?_ ?_ | omega)) only [go_sem, *]
        refine ⟨.inr ⟨n' + 1, by simp, by omega, by rw [heap_ne (by omega)]; exact heap_same⟩, ?_, ?_, by omega⟩
        · exact Kept.set' hW1 (by omega) (Kept.set' hW1 (by omega) (Kept.set' hW1 (by omega) (Kept.set' hW1 (by omega) q4)))
        · exact WfH.set' (by omega) (WfH.set' (by omega) (WfH.set' (by omega) (WfH.set' (by omega) (q5.mono (by omega)))))
    · clear ih hrl hrm
      rcases q2 with ⟨rfl, rfl⟩ | ⟨g, rfl, g1, g3⟩
      · repeat' first | simp (maxSteps := 2000000) (disch := first | omega | (repeat first | assumption | exact Kept.refl _ | refine Kept.set' (by assumption) ?_ ?_ | refine Kept.set (by assumption) ?_ ?_ | omega)) only [go_sem, *, Try.results43] | (first | apply xg1 | apply xc1 | apply xg2 | apply xc2 | apply xc3 | apply xc4 | apply xg3 | apply xg4) <;> intro _ | (first | apply xh1 | apply xh2 | apply xh3 | apply xh4) <;> intro _ | refine EvK_draw (id := 3) (L := w43_3) (by kernel_rfl) (by kernel_rfl) ?_ | refine EvK_draw (id := 11) (L := w43_11) (by kernel_rfl) (by kernel_rfl) ?_
        exact ⟨⟨_, _, _, rfl⟩, Kept.set' hW (by omega) kh⟩
      · repeat' first | simp (maxSteps := 2000000) (disch := first | omega | (repeat first | assumption | exact Kept.refl _ | refine Kept.set' (by assumption) ?_ ?_ | refine Kept.set (by assumption) ?_ ?_ | omega)) only [go_sem, *, Try.results43] | (first | apply xg1 | apply xc1 | apply xg2 | apply xc2 | apply xc3 | apply xc4 | apply xg3 | apply xg4) <;> intro _ | (first | apply xh1 | apply xh2 | apply xh3 | apply xh4) <;> intro _ | refine EvK_draw (id := 3) (L := w43_3) (by kernel_rfl) (by kernel_rfl) ?_ | refine EvK_draw (id := 11) (L := w43_11) (by kernel_rfl) (by kernel_rfl) ?_
        exact ⟨⟨_, _, _, rfl⟩, Kept.set' hW (by omega) kh⟩
end Go.Proofs.Ytapcgfakefmemaa
