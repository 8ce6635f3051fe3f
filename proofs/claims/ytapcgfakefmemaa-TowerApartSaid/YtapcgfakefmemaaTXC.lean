/-
  A part of the proof: contracts of inner functions.
-/
import Derived.Test.YtapcgfakefmemaaTVF
set_option linter.unusedVariables false
set_option linter.unusedSimpArgs false
namespace Go.Proofs.Ytapcgfakefmemaa
open Go.Am
def wrL (k v st : Int) : List Value := [.int .u8 9, .int .i64 0, .int .u64 k, .int .u8 10, .int .i64 1, .int .u64 v, .int .u8 11, .int .i64 4, .int .u64 st]
def WrOk (ro : Bool) (th n : Int) (l : LayV) (st : Int) : Prop := ro = false ∧ (0 ≤ th ∧ th < 64) ∧ (1 ≤ n ∧ n ≤ l.H.length) ∧ chk st = true ∧ U64 st
noncomputable def writeS : List Value → Option (AP Value)
  | [.pointer (some ⟨tb, 0, none⟩), .int .i64 th, .int .i64 n, .agg ⟨[.int .u64 k, .int .u64 v]⟩, .int .u64 st] => some (AP.row tb fun (S : List Value) ro => match S with
    | [.pointer (some mp), .pointer (some lp)] => (rdL (.pointer (some lp))).bind fun l => cond (@decide (WrOk ro th n l st) (Classical.propDecidable _))
        (.newRow [.pointer (some ⟨tb, 0, none⟩)] fun b1 => .newRow [.int .i64 n] fun b2 => .newRow (wrL k v st) fun b3 => .newRow [.pointer (some mp), .int .i64 th, .func (.func 56) ⟨[]⟩ ⟨[.pointer (some ⟨b1, 0, none⟩), .pointer (some ⟨b2, 0, none⟩)]⟩, .slice (some ⟨b3, 0, none⟩) 3 3] fun b4 => .pure (.tuple ⟨[.pointer (some ⟨b4, 0, none⟩), .int .i64 0]⟩)) (.fail "")
    | _ => .fail "")
  | _ => none
noncomputable abbrev OhT : Over := tabO [(12, heightS)]
theorem OhTok : SoundO Try.prog OhT := tab_sound (.cons heightF .nil)
set_option maxRecDepth 100000 in
set_option maxHeartbeats 4000000 in
theorem writeB (tb : Nat) (mp lp : Addr) (l : LayV) (th n k v st : Int) (h : PT ABlk) (N : Nat) (hW : WfH h N) (hb : h.get tb = some (.cells (PT.ofList .leaf 0 [.pointer (some mp), .pointer (some lp)]) false)) (hl : (rdL (.pointer (some lp))).look h = some l) (ht : 0 ≤ th ∧ th < 64) (hn : 1 ≤ n ∧ n ≤ l.H.length) (hc : chk st = true) (hst : U64 st) :
    EvB Try.prog OhT 21 [.pointer (some ⟨tb, 0, none⟩), .int .i64 th, .int .i64 n, .agg ⟨[.int .u64 k, .int .u64 v]⟩, .int .u64 st] h N fun r h' n' => r = .tuple ⟨[.pointer (some ⟨N + 4, 0, none⟩), .int .i64 0]⟩ ∧
      h' = ((((h.set N (some (.cells (PT.ofList .leaf 0 [.pointer (some ⟨tb, 0, none⟩)]) false))).set (N + 1) (some (.cells (PT.ofList .leaf 0 [.int .i64 n]) false))).set (N + 2) (some (.cells (PT.ofList .leaf 0 [.int .u64 k, .int .u64 v]) false))).set (N + 3) (some (.cells (PT.ofList .leaf 0 (wrL k v st)) false))).set (N + 4) (some (.cells (PT.ofList .leaf 0 [.pointer (some mp), .int .i64 th, .func (.func 56) ⟨[]⟩ ⟨[.pointer (some ⟨N, 0, none⟩), .pointer (some ⟨N + 1, 0, none⟩)]⟩, .slice (some ⟨N + 3, 0, none⟩) 3 3]) false)) := by
  obtain ⟨hh1, hh2⟩ := hgt_in (l := l) hn
  obtain ⟨ht0, ht1⟩ := ht
  have ht2 : ¬ th < 0 := by omega
  have ht3 : ¬ (64 : Int) ≤ th := by omega
  have hchk := checkB (O := OhT) rfl rfl rfl rfl rfl st hst
  rw [if_pos hc] at hchk
  have hbN := hW.lt hb
  have hrl := fun h' hk z L f d ops r K m n lo rd wr fs => @EvX_look _ _ _ _ h' hl z L f d ops r K m n lo rd wr fs hk
  obtain ⟨mb, mo, ms⟩ := mp
  obtain ⟨lb, lo', ls⟩ := lp
  clear hh1
  refine EvB_run (N := 56) Try.func21 rfl rfl fun z hP hO hro hN hQ => ?_
  repeat' first | simp (maxSteps := 2000000) (disch := first | omega | (repeat first | assumption | exact Kept.refl _ | refine Kept.set' (by assumption) ?_ ?_ | refine Kept.set (by assumption) ?_ ?_ | omega)) only [go_sem, *, Try.results21, heightS, heightV] | (first | apply xg1 | apply xc1 | apply xg2 | apply xc2 | apply xc3 | apply xc4 | apply xg3 | apply xg4) <;> intro _ | (first | apply xh1 | apply xh2 | apply xh3 | apply xh4) <;> intro _ | refine EvK_draw (id := 5) (L := w21_5) (by kernel_rfl) (by kernel_rfl) ?_ | refine EvK_draw (id := 11) (L := w21_11) (by kernel_rfl) (by kernel_rfl) ?_
  refine EvQ_call ?_ ?_ (by rw [hP, hO]; exact hchk _ _) ?_
  · simp (maxSteps := 2000000) (disch := first | omega | (repeat first | assumption | exact Kept.refl _ | refine Kept.set' (by assumption) ?_ ?_ | refine Kept.set (by assumption) ?_ ?_ | omega)) only [go_sem, *]
  · simp (maxSteps := 2000000) (disch := first | omega | (repeat first | assumption | exact Kept.refl _ | refine Kept.set' (by assumption) ?_ ?_ | refine Kept.set (by assumption) ?_ ?_ | omega)) only [go_sem, *]
  rintro v9 h9 n9 ⟨rfl, hh, hn9⟩
  subst hh hn9
  repeat' first | simp (maxSteps := 2000000) (disch := first | omega | (repeat first | assumption | exact Kept.refl _ | refine Kept.set' (by assumption) ?_ ?_ | refine Kept.set (by assumption) ?_ ?_ | omega)) only [go_sem, *, Try.results21, heightS, heightV, wrL] | (first | apply xg1 | apply xc1 | apply xg2 | apply xc2 | apply xc3 | apply xc4 | apply xg3 | apply xg4) <;> intro _ | (first | apply xh1 | apply xh2 | apply xh3 | apply xh4) <;> intro _ | refine EvK_draw (id := 5) (L := w21_5) (by kernel_rfl) (by kernel_rfl) ?_ | refine EvK_draw (id := 11) (L := w21_11) (by kernel_rfl) (by kernel_rfl) ?_
  done
def wrR (n N i : Nat) : Nat := if i = n then N else if i = n + 1 then N + 1 else if i = n + 1 + 1 then N + 3 else N + 4
set_option maxHeartbeats 2000000 in
theorem writeF : SoundF Try.prog 21 writeS := by
  refine soundF OhTok orders ?_
  intro args m hm h n N Old OldId v h1 n1 hr hold hid hN
  unfold writeS at hm
  split at hm
  · rename_i tb th nn k v' st
    simp only [Option.some.injEq] at hm
    subst hm
    replace hr := run_row hr
    obtain ⟨S, ro, hS, hr⟩ := hr
    split at hr
    · rename_i mp lp
      replace hr := run_bind_reads (rdL_reads _) hr
      obtain ⟨l, hl, hr⟩ := hr
      replace hr := run_cond hr
      obtain ⟨hc, hr⟩ := hr
      obtain ⟨rfl, ht, hn, hchk, hst⟩ := @of_decide_eq_true _ (Classical.propDecidable _) hc
      replace hr := run_new (run_new (run_new (run_new hr)))
      obtain ⟨hs, rfl⟩ := run_pure hr
      have e1 : h1 = _ := congrArg HS.heap hs
      have e2 : n1 = _ := congrArg HS.next hs
      simp only [S0] at e1 e2
      subst e1 e2
      clear hs hr hc
      have hlt : ∀ i B, h.get i = some B → i < N ∧ ¬ (n ≤ i ∧ i < n + 1 + 1 + 1 + 1) := fun i B e => hid i (hold.id i B e)
      have hW : WfH h N := WfH.of_lt fun i B e => (hlt i B e).1
      refine (writeB tb mp lp l th nn k v' st h N hW hS hl ht hn hchk hst).mono ?_
      rintro v2 h2 n2 ⟨rfl, rfl⟩
      have htb : Old (.pointer (some ⟨tb, 0, none⟩)) := hold.args _ (by simp)
      have hmp : Old (.pointer (some mp)) := hold.cells tb _ _ 0 _ hS (by rw [PT.get_ofList_leaf]; rfl)
      have g0 : wrR n N n = N := if_pos rfl
      have g1 : wrR n N (n + 1) = N + 1 := by unfold wrR; rw [if_neg (by omega), if_pos rfl]
      have g2 : wrR n N (n + 1 + 1) = N + 3 := by unfold wrR; rw [if_neg (by omega), if_neg (by omega), if_pos rfl]
      have g3 : wrR n N (n + 1 + 1 + 1) = N + 4 := by unfold wrR; rw [if_neg (by omega), if_neg (by omega), if_neg (by omega)]
      have i0 : IdR OldId n (n + 1 + 1 + 1 + 1) (wrR n N) n N := .inr ⟨by omega, by omega, g0.symm⟩
      have i1 : IdR OldId n (n + 1 + 1 + 1 + 1) (wrR n N) (n + 1) (N + 1) := .inr ⟨by omega, by omega, g1.symm⟩
      have i2 : IdR OldId n (n + 1 + 1 + 1 + 1) (wrR n N) (n + 1 + 1) (N + 3) := .inr ⟨by omega, by omega, g2.symm⟩
      have i3 : IdR OldId n (n + 1 + 1 + 1 + 1) (wrR n N) (n + 1 + 1 + 1) (N + 4) := .inr ⟨by omega, by omega, g3.symm⟩
      refine ⟨wrR n N, fun i _ _ => ?_, fun i j q1 q2 q3 q4 e => ?_, .tuple _ _ (.cons _ _ _ _ (.ptr _ _ _ i3) (.cons _ _ _ _ (.int _ _) .nil)), fun i B e => ?_⟩
      · unfold wrR; repeat' split
        all_goals omega
      · unfold wrR at e
        repeat' split at e
        all_goals omega
      · rw [PT.get_set] at e
        split at e
        · rename_i hi; subst hi
          obtain rfl := Option.some.inj e
          refine .inr ⟨_, ?_, .cells _ _ _ (.cons _ _ _ _ (.old _ hmp) (.cons _ _ _ _ (.int _ _) (.cons _ _ _ _ (.func 56 _ _ _ _ .nil (.cons _ _ _ _ (.ptr _ _ _ i0) (.cons _ _ _ _ (.ptr _ _ _ i1) .nil))) (.cons _ _ _ _ (.slice _ _ _ _ _ i2) .nil))))⟩
          rw [sg_new (by omega), g3]
          exact heap_same
        · rw [PT.get_set] at e
          split at e
          · rename_i hi; subst hi
            obtain rfl := Option.some.inj e
            refine .inr ⟨_, ?_, .cells _ _ _ (.cons _ _ _ _ (.int _ _) (.cons _ _ _ _ (.int _ _) (.cons _ _ _ _ (.int _ _) (.cons _ _ _ _ (.int _ _) (.cons _ _ _ _ (.int _ _) (.cons _ _ _ _ (.int _ _) (.cons _ _ _ _ (.int _ _) (.cons _ _ _ _ (.int _ _) (.cons _ _ _ _ (.int _ _) .nil)))))))))⟩
            rw [sg_new (by omega), g2]
            simp (disch := omega) only [heap_ne, heap_same]
            rfl
          · rw [PT.get_set] at e
            split at e
            · rename_i hi; subst hi
              obtain rfl := Option.some.inj e
              refine .inr ⟨_, ?_, .cells _ _ _ (.cons _ _ _ _ (.int _ _) .nil)⟩
              rw [sg_new (by omega), g1]
              simp (disch := omega) only [heap_ne, heap_same]
            · rw [PT.get_set] at e
              split at e
              · rename_i hi; subst hi
                obtain rfl := Option.some.inj e
                refine .inr ⟨_, ?_, .cells _ _ _ (.cons _ _ _ _ (.old _ htb) .nil)⟩
                rw [sg_new (by omega), g0]
                simp (disch := omega) only [heap_ne, heap_same]
              · have := (hlt i B e).1
                refine .inl ⟨e, ?_⟩
                simp (disch := omega) only [heap_ne]
                exact e
    · exact (run_fail hr).elim
  · simp at hm
end Go.Proofs.Ytapcgfakefmemaa
set_option linter.unusedVariables false
set_option linter.unusedSimpArgs false
namespace Go.Proofs.Ytapcgfakefmemaa
open Go.Am
def stOf (k e g : Int) : Int := if k.tmod 6 ≤ 2 then k.tmod 6 else k.tmod 6 + 8 * e.tmod 2 + 65536 * g.tmod 3
noncomputable def stateS : List Value → Option (AP Value)
  | [.agg ⟨[.int .u64 _, .int .u64 _, .int .u8 k, .int .u8 e, .int .u8 g]⟩] => some (cond (decide (0 ≤ k ∧ 0 ≤ e ∧ 0 ≤ g)) (.pure (.int .u64 (stOf k e g))) (.fail ""))
  | _ => none
theorem tmod_rng {a b : Int} (h : 0 ≤ a) (hb : 0 < b) : 0 ≤ a.tmod b ∧ a.tmod b < b := ⟨Int.tmod_nonneg b h, Int.tmod_lt_of_pos a hb⟩
set_option maxHeartbeats 1000000 in
theorem stateB {O : Over} (v al k e g : Int) (hk : 0 ≤ k) (he : 0 ≤ e) (hg : 0 ≤ g) (h : PT ABlk) (n : Nat) (hW : WfH h n) : EvB Try.prog O 22 [.agg ⟨[.int .u64 v, .int .u64 al, .int .u8 k, .int .u8 e, .int .u8 g]⟩] h n fun r h' n' => r = .int .u64 (stOf k e g) ∧ ∀ i, i < n → h'.get i = h.get i := by
  have a1 := tmod_rng hk (show (0 : Int) < 6 by omega)
  have a2 := tmod_rng he (show (0 : Int) < 2 by omega)
  have a3 := tmod_rng hg (show (0 : Int) < 3 by omega)
  unfold stOf
  generalize hx1 : k.tmod 6 = x1 at *
  generalize hx2 : e.tmod 2 = x2 at *
  generalize hx3 : g.tmod 3 = x3 at *
  refine EvB_run (N := 25) Try.func22 rfl rfl fun z hP hO hro hN hQ => ?_
  by_cases c : x1 ≤ 2
  · rw [if_pos c] at hQ
    repeat' first | simp (maxSteps := 2000000) (disch := first | omega | (repeat first | assumption | exact Kept.refl _ | refine Kept.set' (by assumption) ?_ ?_ | refine Kept.set (by assumption) ?_ ?_ | omega)) only [go_sem, *, Try.results22] | (first | apply xg1 | apply xc1 | apply xg2 | apply xc2 | apply xc3 | apply xc4 | apply xg3 | apply xg4) <;> intro _
    intro i hi
    rw [heap_ne (by omega)]
  · rw [if_neg c] at hQ
    repeat' first | simp (maxSteps := 2000000) (disch := first | omega | (repeat first | assumption | exact Kept.refl _ | refine Kept.set' (by assumption) ?_ ?_ | refine Kept.set (by assumption) ?_ ?_ | omega)) only [go_sem, *, Try.results22] | (first | apply xg1 | apply xc1 | apply xg2 | apply xc2 | apply xc3 | apply xc4 | apply xg3 | apply xg4) <;> intro _
    intro i hi
    rw [heap_ne (by omega)]
theorem stateF : SoundF Try.prog 22 stateS := by
  refine soundF_look (O := tabO []) (tab_sound .nil) orders ?_ ?_ ?_
  · intro args m hm
    unfold stateS at hm
    split at hm
    · obtain rfl := Option.some.inj hm; exact .cond (.pure _) (.fail _)
    · simp at hm
  · intro args m h v hm e
    unfold stateS at hm
    split at hm
    · obtain rfl := Option.some.inj hm
      obtain ⟨_, e⟩ := look_cond e
      rw [look_pure] at e; obtain rfl := Option.some.inj e
      exact .int _ _
    · simp at hm
  · intro args m h N v hm hR hlt e
    unfold stateS at hm
    split at hm
    · obtain rfl := Option.some.inj hm
      obtain ⟨hc, e⟩ := look_cond e
      have hc := of_decide_eq_true hc
      rw [look_pure] at e; obtain rfl := Option.some.inj e
      exact stateB (O := tabO []) _ _ _ _ _ hc.1 hc.2.1 hc.2.2 h N (WfH.of_lt hlt)
    · simp at hm
theorem stOf_facts {k e g : Int} (hk : 0 ≤ k) (he : 0 ≤ e) (hg : 0 ≤ g) : U64 (stOf k e g) ∧ chk (stOf k e g) = true ∧ kd (stOf k e g) = k.tmod 6 ∧ (2 < k.tmod 6 → en (stOf k e g) = e.tmod 2 ∧ gn (stOf k e g) = g.tmod 3) := by
  have a1 := tmod_rng hk (show (0 : Int) < 6 by omega)
  have a2 := tmod_rng he (show (0 : Int) < 2 by omega)
  have a3 := tmod_rng hg (show (0 : Int) < 3 by omega)
  unfold stOf
  generalize k.tmod 6 = x1 at *
  generalize e.tmod 2 = x2 at *
  generalize g.tmod 3 = x3 at *
  by_cases c : x1 ≤ 2
  · rw [if_pos c]
    have k1 : kd x1 = x1 := by unfold kd; rw [Int.tmod_eq_emod_of_nonneg (by omega)]; omega
    have k2 : en x1 = 0 := by
      unfold en
      rw [Int.tmod_eq_emod_of_nonneg (by omega), Int.tdiv_eq_ediv_of_nonneg (by omega)]; omega
    have k3 : gn x1 = 0 := by unfold gn; rw [Int.tdiv_eq_ediv_of_nonneg (by omega)]; omega
    refine ⟨by unfold U64; omega, ?_, k1, fun q => by omega⟩
    unfold chk
    rw [k1, k2, k3, decide_eq_true c]
    rfl
  · rw [if_neg c]
    have k1 : kd (x1 + 8 * x2 + 65536 * x3) = x1 := by unfold kd; rw [Int.tmod_eq_emod_of_nonneg (by omega)]; omega
    have k2 : en (x1 + 8 * x2 + 65536 * x3) = x2 := by
      unfold en
      rw [Int.tmod_eq_emod_of_nonneg (by omega), Int.tdiv_eq_ediv_of_nonneg (by omega)]; omega
    have k3 : gn (x1 + 8 * x2 + 65536 * x3) = x3 := by unfold gn; rw [Int.tdiv_eq_ediv_of_nonneg (by omega)]; omega
    refine ⟨by unfold U64; omega, ?_, k1, fun q => ⟨k2, k3⟩⟩
    unfold chk
    rw [k1, k2, k3, decide_eq_true (show 3 ≤ x1 by omega), decide_eq_true (show x1 ≤ 5 by omega), decide_eq_true (show x2 < 16 by omega), decide_eq_true (show x3 ≤ 1099511627775 by omega)]
    simp
end Go.Proofs.Ytapcgfakefmemaa
set_option linter.unusedVariables false
set_option linter.unusedSimpArgs false
namespace Go.Proofs.Ytapcgfakefmemaa
open Go.Am
noncomputable def wrAtS : List Value → Option (AP Value)
  | [.int .i64 w, .pointer (some ⟨p1, 0, none⟩), .pointer (some ⟨p2, 0, none⟩)] => some (AP.row p1 fun (S : List Value) r1 => match S with
    | [.pointer (some ⟨tb, 0, none⟩)] => AP.row tb fun (S2 : List Value) r2 => match S2 with
      | [mp, .pointer (some lp)] => AP.row p2 fun (S3 : List Value) r3 => match S3 with
        | [.int .i64 n] => (rdL (.pointer (some lp))).bind fun l => .pure (.int .i64 (wrdA l n w))
        | _ => .fail ""
      | _ => .fail ""
    | _ => .fail "")
  | _ => none
noncomputable abbrev OwT : Over := tabO [(24, wordS)]
theorem OwTok : SoundO Try.prog OwT := tab_sound (.cons wordF .nil)
theorem wrAtF : SoundF Try.prog 56 wrAtS := by
  refine soundF_look OwTok orders ?_ ?_ ?_
  · intro args m hm
    unfold wrAtS at hm
    split at hm
    · obtain rfl := Option.some.inj hm
      refine row_reads fun S r1 => ?_
      split
      · refine row_reads fun S2 r2 => ?_
        split
        · refine row_reads fun S3 r3 => ?_
          split
          · exact (rdL_reads _).bind fun l => .pure _
          · exact .fail _
        · exact .fail _
      · exact .fail _
    · simp at hm
  · intro args m h v hm e
    unfold wrAtS at hm
    split at hm
    · obtain rfl := Option.some.inj hm
      obtain ⟨S, r1, h1, e⟩ := look_row e
      split at e
      · obtain ⟨S2, r2, h2, e⟩ := look_row e
        split at e
        · obtain ⟨S3, r3, h3, e⟩ := look_row e
          split at e
          · obtain ⟨l, _, e⟩ := look_bind_some e
            rw [look_pure] at e; obtain rfl := Option.some.inj e
            exact .int _ _
          · simp [AP.look] at e
        · simp [AP.look] at e
      · simp [AP.look] at e
    · simp at hm
  · intro args m h N v hm hR hlt e
    unfold wrAtS at hm
    split at hm
    · rename_i w p1 p2
      obtain rfl := Option.some.inj hm
      obtain ⟨S, r1, h1, e⟩ := look_row e
      split at e
      · rename_i tb
        obtain ⟨S2, r2, h2, e⟩ := look_row e
        split at e
        · rename_i mp lp
          obtain ⟨S3, r3, h3, e⟩ := look_row e
          split at e
          · rename_i n
            obtain ⟨l, hl, e⟩ := look_bind_some e
            rw [look_pure] at e; obtain rfl := Option.some.inj e
            have hrl := fun h' hk z L f d ops r K m n lo rd wr fs => @EvX_look _ _ _ _ h' hl z L f d ops r K m n lo rd wr fs hk
            clear hl e
            refine EvB_run (N := 18) Try.func56 rfl rfl fun z hP hO hro hN hQ => ?_
            obtain ⟨lb, lo', ls⟩ := lp
            repeat' first | simp (maxSteps := 2000000) (disch := first | omega | (repeat first | assumption | exact Kept.refl _ | refine Kept.set' (by assumption) ?_ ?_ | refine Kept.set (by assumption) ?_ ?_ | omega)) only [go_sem, *, Try.results56, wordS, wordV, implies_true] | (first | apply xg1 | apply xc1 | apply xg2 | apply xc2 | apply xc3 | apply xc4 | apply xg3 | apply xg4) <;> intro _ | (first | apply xh1 | apply xh2 | apply xh3 | apply xh4) <;> intro _ | refine EvK_draw (id := 1) (L := w56_1) (by kernel_rfl) (by kernel_rfl) ?_
          · simp [AP.look] at e
        · simp [AP.look] at e
      · simp [AP.look] at e
    · simp at hm
structure WrS (hB : PT ABlk) (nB xb lb mb wb tb zb rb rt : Nat) (l : LayV) (W : List Int) (k : Nat) (h : PT ABlk) : Prop where
  kept : Kept hB h
  row : h.get xb = some (.cells (PT.ofList .leaf 0 [.pointer (some ⟨lb, 0, none⟩), .pointer (some ⟨mb, 0, none⟩), .pointer (some ⟨tb, 0, none⟩), .pointer (some ⟨zb, 0, none⟩), .pointer (some ⟨rb, 0, none⟩), .pointer (some ⟨rt, 0, none⟩)]) false)
  tow : h.get tb = some (.cells (PT.ofList .leaf 0 [.pointer (some ⟨mb, 0, none⟩), .pointer (some ⟨lb, 0, none⟩)]) false)
  mem : ∃ lg, IsMem h mb wb W lg ∧ ((k ≤ 0 ∧ lg = .slice none 0 0) ∨ ∃ g G, lg = .slice (some ⟨g, 0, none⟩) k (capInf + 6) ∧ h.get g = some (.cells (PT.ofList .leaf 0 G) false) ∧ G.length = k * 6 ∧ 0 < k ∧ xb < g)
  ord : nB ≤ wb ∧ wb < mb ∧ mb < tb ∧ tb < xb
structure OpS (mb tb b4 b3 p1 p2 : Nat) (th n : Int) (L : List Value) (off j : Nat) (h : PT ABlk) : Prop where
  obj : h.get b4 = some (.cells (PT.ofList .leaf 0 [.pointer (some ⟨mb, 0, none⟩), .int .i64 th, .func (.func 56) ⟨[]⟩ ⟨[.pointer (some ⟨p1, 0, none⟩), .pointer (some ⟨p2, 0, none⟩)]⟩, .slice (some ⟨b3, off, none⟩) j j]) false)
  left : h.get b3 = some (.cells (PT.ofList .leaf 0 L) false)
  cap1 : h.get p1 = some (.cells (PT.ofList .leaf 0 [.pointer (some ⟨tb, 0, none⟩)]) false)
  cap2 : h.get p2 = some (.cells (PT.ofList .leaf 0 [.int .i64 n]) false)
theorem row_ne {h : PT ABlk} {i j : Nat} {L L' : List Value} {r r' : Bool} (hi : h.get i = some (.cells (PT.ofList .leaf 0 L) r)) (hj : h.get j = some (.cells (PT.ofList .leaf 0 L') r')) (hl : L.length ≠ L'.length) : i ≠ j := fun e => by
  subst e
  rw [hi] at hj
  have := ofList_inj (ABlk.cells.inj (Option.some.inj hj)).1
  exact hl (by rw [this])
theorem slK_left {b off j : Nat} (h : 1 ≤ j ∧ j ≤ 3) : slK ⟨b, off, none⟩ 3 j j (some 1) (some j) = .pure (.value (.slice (some ⟨b, if j = 1 then off else off + 3, none⟩) (j - 1) (j - 1))) := by
  obtain rfl | rfl | rfl : j = 1 ∨ j = 2 ∨ j = 3 := by omega
  · rfl
  · rfl
  · rfl
set_option maxRecDepth 100000 in
set_option maxHeartbeats 4000000 in
theorem stepB {O : Over} (o19 : O 19 = storeS) (o56 : O 56 = wrAtS) {hB : PT ABlk} {nB xb lb mb wb tb zb rb rt b4 b3 p1 p2 k off j : Nat} {l : LayV} {W : List Int} {th n : Int} {L : List Value} {h : PT ABlk} {N : Nat} (hWB : WfH hB nB) (hlk : (rdL (.pointer (some ⟨lb, 0, none⟩))).look hB = some l) (hW : WfH h N) (S : WrS hB nB xb lb mb wb tb zb rb rt l W k h) (hk : k ≤ 100000)
    (Q : OpS mb tb b4 b3 p1 p2 th n L off j h) (ho : xb < p1 ∧ p1 < p2 ∧ p2 < b3 ∧ b3 < b4) (hth : 0 ≤ th ∧ th < 64) (hj : 1 ≤ j ∧ j ≤ 3) (hL9 : L.length = 9) (pc w v : Int) (hL : (L.drop off).take 3 = [.int .u8 pc, .int .i64 w, .int .u64 v]) (hoff : off + 3 * j ≤ 9) (a : Nat) (ha : wrdA l n w = (a : Int)) (haW : a < W.length) :
    EvB Try.prog O 23 [.pointer (some ⟨b4, 0, none⟩)] h N fun r h' n' => r = .tuple ⟨[.int .u8 pc, .bool (decide (j = 1))]⟩ ∧ WrS hB nB xb lb mb wb tb zb rb rt l (W.set a v) (k + 1) h' ∧ OpS mb tb b4 b3 p1 p2 th n L (if j = 1 then off else off + 3) (j - 1) h' ∧ WfH h' n' ∧ N ≤ n' ∧ ∀ (i : Nat) (B : ABlk), h.get i = some B → i ≠ mb → i ≠ wb → i ≠ b4 → (∀ (L' : List Value) r, B = .cells (PT.ofList .leaf 0 L') r → L'.length ≠ k * 6) → h'.get i = some B := by
  obtain ⟨s1, s2, s3, ⟨lg, hM, hlg⟩, s5⟩ := S
  obtain ⟨q1, q2, q3, q4⟩ := Q
  obtain ⟨hMr, hMw⟩ := hM
  have n1 := hW.lt s2
  have n2 := hW.lt s3
  have n3 := hW.lt hMr
  have n4 := hW.lt hMw
  have n5 := hW.lt q1
  have hrl := fun h' hk z L f d ops r K m n lo rd wr fs => @EvX_look _ _ _ _ h' hlk z L f d ops r K m n lo rd wr fs hk
  have hg := mapW_get haW
  have hms : (W.map (Value.int .u64)).set a (.int .u64 v) = (W.set a v).map (.int .u64) := by rw [List.map_set]
  have hls : (W.set a v).length = W.length := List.length_set
  have hble : Nat.ble (off + 3) 9 = true := Nat.ble_eq_true_of_le (by omega)
  have hai : (0 : Int) ≤ (a : Int) := by omega
  have hai2 : (a : Int) < (W.length : Int) := by omega
  obtain ⟨ht0, ht1⟩ := hth
  have hne1 : ¬ wb = mb := by omega
  generalize W[a] = old at *
  generalize W.set a v = W2 at *
  have hj0 : ¬ (j : Int) = 0 := by omega
  have hsk := slK_left (b := b3) (off := off) hj
  have hjd : decide (((j - 1 : Nat) : Int) = 0) = decide (j = 1) := decide_eq_decide.2 (by omega)
  generalize (if j = 1 then off else off + 3) = off2 at *
  generalize decide (j = 1) = dj at *
  generalize hj1 : j - 1 = j2 at *
  clear hlk
  refine EvB_run (N := 55) Try.func23 rfl rfl fun z hP hO hro hN hQ => ?_
  rcases hlg with ⟨hk0, rfl⟩ | ⟨g, G, rfl, g1, g2, g3, g4⟩
  · obtain rfl : k = 0 := by omega
    repeat' first | simp (maxSteps := 2000000) (disch := first | omega | (repeat first | assumption | exact Kept.refl _ | refine Kept.set' (by assumption) ?_ ?_ | refine Kept.set (by assumption) ?_ ?_ | omega)) only [go_sem, *, Try.results23, storeS, stM, wrAtS, Int.toNat_natCast] | (first | apply xg1 | apply xc1 | apply xg2 | apply xc2 | apply xc3 | apply xc4 | apply xg3 | apply xg4) <;> intro _ | (first | apply xh1 | apply xh2 | apply xh3 | apply xh4) <;> intro _ | refine EvK_draw (id := 5) (L := w23_5) (by kernel_rfl) (by kernel_rfl) ?_ | refine EvK_draw (id := 6) (L := w23_6) (by kernel_rfl) (by kernel_rfl) ?_
    refine ⟨⟨by repeat (first | exact s1 | refine Kept.set' hWB (by omega) ?_), by simp (disch := omega) only [heap_ne]; exact s2, by simp (disch := omega) only [heap_ne]; exact s3, ⟨_, ⟨by rw [hls]; exact heap_same, by simp (disch := omega) only [heap_ne, heap_same]⟩, .inr ⟨N + 1, acc th (a : Int) old v, rfl, by simp (disch := omega) only [heap_ne, heap_same], rfl, by omega, by omega⟩⟩, s5⟩, ⟨by simp (disch := omega) only [heap_ne, heap_same], by simp (disch := omega) only [heap_ne]; exact q2, by simp (disch := omega) only [heap_ne]; exact q3, by simp (disch := omega) only [heap_ne]; exact q4⟩, ?_, by omega, fun i B e i1 i2 i3 i4 => ?_⟩
    · repeat refine WfH.set' (by omega) ?_
      exact hW.mono (by omega)
    · have i5 := hW.lt e
      simp (disch := omega) only [heap_ne]
      exact e
  · have gb4 : g ≠ b4 := row_ne g1 q1 (by simp only [List.length_cons, List.length_nil]; omega)
    have gb3 : g ≠ b3 := row_ne g1 q2 (by omega)
    have gp1 : g ≠ p1 := row_ne g1 q3 (by simp only [List.length_cons, List.length_nil]; omega)
    have gp2 : g ≠ p2 := row_ne g1 q4 (by simp only [List.length_cons, List.length_nil]; omega)
    have gmb : g ≠ mb := by omega
    have gwb : g ≠ wb := by omega
    have ggn := hW.lt g1
    have hk1 : k ≤ 1000000 := by omega
    repeat' first | simp (maxSteps := 2000000) (disch := first | omega | (repeat first | assumption | exact Kept.refl _ | refine Kept.set' (by assumption) ?_ ?_ | refine Kept.set (by assumption) ?_ ?_ | omega)) only [go_sem, *, Try.results23, storeS, stM, wrAtS, Int.toNat_natCast] | (first | apply xg1 | apply xc1 | apply xg2 | apply xc2 | apply xc3 | apply xc4 | apply xg3 | apply xg4) <;> intro _ | (first | apply xh1 | apply xh2 | apply xh3 | apply xh4) <;> intro _ | refine EvK_draw (id := 5) (L := w23_5) (by kernel_rfl) (by kernel_rfl) ?_ | refine EvK_draw (id := 6) (L := w23_6) (by kernel_rfl) (by kernel_rfl) ?_
    refine ⟨⟨by repeat (first | exact s1 | refine Kept.set' hWB (by omega) ?_), by simp (disch := omega) only [heap_ne]; exact s2, by simp (disch := omega) only [heap_ne]; exact s3, ⟨_, ⟨by rw [hls]; exact heap_same, by simp (disch := omega) only [heap_ne, heap_same]⟩, .inr ⟨N + 1, G ++ acc th (a : Int) old v, rfl, by simp (disch := omega) only [heap_ne, heap_same], by rw [List.length_append, g2]; simp only [acc, List.length_cons, List.length_nil]; omega, by omega, by omega⟩⟩, s5⟩, ⟨by simp (disch := omega) only [heap_ne, heap_same], by simp (disch := omega) only [heap_ne]; exact q2, by simp (disch := omega) only [heap_ne]; exact q3, by simp (disch := omega) only [heap_ne]; exact q4⟩, ?_, by omega, fun i B e i1 i2 i3 i4 => ?_⟩
    · repeat refine WfH.set' (by omega) ?_
      exact hW.mono (by omega)
    · have i5 := hW.lt e
      have i6 : i ≠ g := fun q => by subst q; rw [g1] at e; exact i4 _ _ (Option.some.inj e).symm g2
      simp (disch := omega) only [heap_ne]
      exact e
end Go.Proofs.Ytapcgfakefmemaa
