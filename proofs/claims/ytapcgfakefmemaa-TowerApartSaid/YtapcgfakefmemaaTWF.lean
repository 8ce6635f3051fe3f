/-
  A part of the proof: contracts of inner functions.
-/
import Derived.Test.YtapcgfakefmemaaTWC
set_option linter.unusedVariables false
set_option linter.unusedSimpArgs false
namespace Go.Proofs.Ytapcgfakefmemaa
open Go.Am
noncomputable def stM (mb wb len cap : Nat) (L : List Value) (th : Int) (a : Nat) (old v : Int) : Value → AP Value
  | .slice none 0 0 => .newRow (acc th a old v) fun g => .setRow wb (L.set a (.int .u64 v)) (.setRow mb [.slice (some ⟨wb, 0, none⟩) len cap, .slice (some ⟨g, 0, none⟩) 1 (capInf + 6)] (.pure (.int .i64 0)))
  | .slice (some ⟨g0, 0, none⟩) k c => AP.row g0 fun G gro => cond (decide (gro = false ∧ c = capInf + 6 ∧ 0 < k ∧ k ≤ 1000000 ∧ G.length = k * 6 ∧ g0 ≠ mb ∧ g0 ≠ wb))
      (.kill g0 (.newRow (G ++ acc th a old v) fun g => .setRow wb (L.set a (.int .u64 v)) (.setRow mb [.slice (some ⟨wb, 0, none⟩) len cap, .slice (some ⟨g, 0, none⟩) (k + 1) (capInf + 6)] (.pure (.int .i64 0))))) (.fail "")
  | _ => .fail ""
theorem accV {I : Nat → Nat → Prop} {Old : Value → Prop} {th a old v : Int} : VRens I Old (acc th a old v) (acc th a old v) := .cons _ _ _ _ (.int _ _) (.cons _ _ _ _ (.int _ _) (.cons _ _ _ _ (.int _ _) (.cons _ _ _ _ (.int _ _) (.cons _ _ _ _ (.int _ _) (.cons _ _ _ _ (.bool _) .nil)))))
noncomputable def storeS : List Value → Option (AP Value)
  | [.pointer (some ⟨mb, 0, none⟩), .int .i64 th, .int .i64 a, .int .u64 v] => some <| AP.row mb fun (S : List Value) ro => match S with
    | [.slice (some ⟨wb, 0, none⟩) len cap, lg] => AP.row wb fun (L : List Value) ro2 => match (L[a.toNat]? : Option Value) with
      | some (.int .u64 old) => cond (decide (ro = false ∧ ro2 = false ∧ 0 ≤ th ∧ th < 64 ∧ 0 ≤ a ∧ a < len ∧ wb ≠ mb)) (stM mb wb len cap L th a.toNat old v lg) (.fail "")
      | _ => .fail ""
    | _ => .fail ""
  | _ => none
set_option maxHeartbeats 4000000 in
theorem storeF : SoundF Try.prog 19 storeS := by
  refine soundF (O := tabO []) (tab_sound .nil) orders ?_
  intro args m hm h n N Old OldId v h1 n1 hr hold hid hN
  unfold storeS at hm
  split at hm
  · rename_i mb th a x
    simp only [Option.some.injEq] at hm
    subst hm
    replace hr := run_row hr
    obtain ⟨S, ro, hS, hr⟩ := hr
    split at hr
    · rename_i wb len cap lg
      replace hr := run_row hr
      obtain ⟨L, ro2, hL, hr⟩ := hr
      split at hr
      · rename_i old ho
        replace hr := run_cond hr
        obtain ⟨hc, hr⟩ := hr
        obtain ⟨rfl, rfl, t0, t1, a0, a1, hne⟩ := of_decide_eq_true hc
        clear hc
        obtain ⟨an, rfl⟩ : ∃ an : Nat, a = an := ⟨a.toNat, by omega⟩
        rw [Int.toNat_natCast] at ho hr
        have hlt : ∀ i B, h.get i = some B → i < N ∧ ¬ (n ≤ i ∧ i < n1) := fun i B e => hid i (hold.id i B e)
        have hW : WfH h N := WfH.of_lt fun i B e => (hlt i B e).1
        have hmb := hlt _ _ hS
        have hwb := hlt _ _ hL
        have hSo : Old (.slice (some ⟨wb, 0, none⟩) len cap) := hold.cells mb _ _ 0 _ hS (by rw [PT.get_ofList_leaf]; rfl)
        have hLr : ∀ I : Nat → Nat → Prop, VRens I Old L L := fun I => VRens.refl _ fun u hu => by
          obtain ⟨j, hj⟩ := List.mem_iff_getElem?.1 hu
          exact .old _ (hold.cells wb _ _ j u hL (by rw [PT.get_ofList_leaf]; exact hj))
        unfold stM at hr
        split at hr
        · replace hr := run_set (run_set (run_new hr))
          obtain ⟨hs, rfl⟩ := run_pure hr
          have e1 : h1 = _ := congrArg HS.heap hs
          have e2 : n1 = _ := congrArg HS.next hs
          simp only [S0] at e1 e2
          subst e1 e2
          clear hs hr
          refine (setB0 (O := tabO []) rfl rfl rfl mb wb len cap L th an old x h N hW hS hL hne ⟨t0, t1⟩ (by omega) ho).mono ?_
          rintro v2 h2 n2 ⟨rfl, rfl, rfl⟩
          refine ⟨fun _ => N + 1, fun i _ _ => Nat.le_succ N, fun i j q1 q2 q3 q4 _ => by omega, .int _ _, fun i B e => ?_⟩
          have hnew : IdR OldId n (n + 1) (fun _ => N + 1) n (N + 1) := .inr ⟨Nat.le_refl _, Nat.lt_succ_self _, rfl⟩
          rw [PT.get_set] at e
          split at e
          · rename_i hi; subst hi
            obtain rfl := Option.some.inj e
            refine .inr ⟨_, ?_, .cells _ _ _ (.cons _ _ _ _ (.old _ hSo) (.cons _ _ _ _ (.slice n 0 1 (capInf + 6) (N + 1) hnew) .nil))⟩
            rw [sg_old (by omega)]
            simp (disch := omega) only [go_sem]
          · rw [PT.get_set] at e
            split at e
            · rename_i hi; subst hi
              obtain rfl := Option.some.inj e
              refine .inr ⟨_, ?_, .cells _ _ _ ((hLr _).set an (.int .u64 x))⟩
              rw [sg_old (by omega)]
              simp (disch := omega) only [go_sem]
            · rw [PT.get_set] at e
              split at e
              · rename_i hi; subst hi
                obtain rfl := Option.some.inj e
                refine .inr ⟨_, ?_, .cells _ _ _ accV⟩
                rw [sg_new (by omega)]
                simp (disch := omega) only [go_sem]
              · have := (hlt i B e).1
                refine .inl ⟨e, ?_⟩
                simp (disch := omega) only [go_sem, e]
        · rename_i g0 k c
          replace hr := run_row hr
          obtain ⟨G, gro, hG, hr⟩ := hr
          replace hr := run_cond hr
          obtain ⟨hc, hr⟩ := hr
          obtain ⟨rfl, rfl, k0, k1, hGl, d1, d2⟩ := of_decide_eq_true hc
          clear hc
          have hg0 := hlt _ _ hG
          have hGr : ∀ I : Nat → Nat → Prop, VRens I Old G G := fun I => VRens.refl _ fun u hu => by
            obtain ⟨j, hj⟩ := List.mem_iff_getElem?.1 hu
            exact .old _ (hold.cells g0 _ _ j u hG (by rw [PT.get_ofList_leaf]; exact hj))
          replace hr := run_set (run_set (run_new (run_kill hr)))
          obtain ⟨hs, rfl⟩ := run_pure hr
          have e1 : h1 = _ := congrArg HS.heap hs
          have e2 : n1 = _ := congrArg HS.next hs
          simp only [S0] at e1 e2
          subst e1 e2
          clear hs hr
          refine (setB1 (O := tabO []) rfl rfl rfl mb wb len cap g0 k L G th an old x h N hW hS hL hne hG hGl k0 k1 d1 d2 ⟨t0, t1⟩ (by omega) ho).mono ?_
          rintro v2 h2 n2 ⟨rfl, rfl, rfl⟩
          refine ⟨fun _ => N + 1, fun i _ _ => Nat.le_succ N, fun i j q1 q2 q3 q4 _ => by omega, .int _ _, fun i B e => ?_⟩
          have hnew : IdR OldId n (n + 1) (fun _ => N + 1) n (N + 1) := .inr ⟨Nat.le_refl _, Nat.lt_succ_self _, rfl⟩
          rw [PT.get_set] at e
          split at e
          · rename_i hi; subst hi
            obtain rfl := Option.some.inj e
            refine .inr ⟨_, ?_, .cells _ _ _ (.cons _ _ _ _ (.old _ hSo) (.cons _ _ _ _ (.slice n 0 (k + 1) (capInf + 6) (N + 1) hnew) .nil))⟩
            rw [sg_old (by omega)]
            simp (disch := omega) only [go_sem]
          · rw [PT.get_set] at e
            split at e
            · rename_i hi; subst hi
              obtain rfl := Option.some.inj e
              refine .inr ⟨_, ?_, .cells _ _ _ ((hLr _).set an (.int .u64 x))⟩
              rw [sg_old (by omega)]
              simp (disch := omega) only [go_sem]
            · rw [PT.get_set] at e
              split at e
              · rename_i hi; subst hi
                obtain rfl := Option.some.inj e
                refine .inr ⟨_, ?_, .cells _ _ _ ((hGr _).append accV)⟩
                rw [sg_new (by omega)]
                simp (disch := omega) only [go_sem]
              · rw [PT.get_set] at e
                split at e
                · simp at e
                · have := (hlt i B e).1
                  refine .inl ⟨e, ?_⟩
                  simp (disch := omega) only [go_sem, e]
        · exact (run_fail hr).elim
      · exact (run_fail hr).elim
    · exact (run_fail hr).elim
  · simp at hm
end Go.Proofs.Ytapcgfakefmemaa
set_option linter.unusedVariables false
set_option linter.unusedSimpArgs false
namespace Go.Proofs.Ytapcgfakefmemaa
open Go.Am
theorem threadB {O : Over} (th : Int) (h : PT ABlk) (n : Nat) (ht : 0 ≤ th ∧ th < 64) : EvB Try.prog O 88 [.int .i64 th] h n fun r h' n' => r = .bool true ∧ h' = h ∧ n' = n := by
  obtain ⟨ht0, ht1⟩ := ht
  refine EvB_run (N := 9) Try.func88 rfl rfl fun z hP hO hro hN hQ => ?_
  repeat' first | simp (maxSteps := 2000000) (disch := omega) only [go_sem, *, Try.results88] | (first | apply xg1 | apply xc1 | apply xg2 | apply xc2 | apply xc3 | apply xc4 | apply xg3 | apply xg4) <;> intro _
theorem rmemCheckB {O : Over} (o88 : O 88 = fun _ => none) (mb : Nat) (x : Option Addr) (len cap : Nat) (lg : Value) (ro : Bool) (th a : Int) (h : PT ABlk) (n : Nat) (hb : h.get mb = some (.cells (PT.ofList .leaf 0 [.slice x len cap, lg]) ro)) (ht : 0 ≤ th ∧ th < 64) :
    EvB Try.prog O 68 [.pointer (some ⟨mb, 0, none⟩), .int .i64 th, .int .i64 a] h n fun r h' n' => r = .int .i64 (if 0 ≤ a ∧ a < len then 0 else 3) ∧ h' = h ∧ n' = n := by
  refine EvB_run (N := 26) Try.func68 rfl rfl fun z hP hO hro hN hQ => ?_
  repeat' first | simp (maxSteps := 2000000) (disch := omega) only [go_sem, *, Try.results68] | (first | apply xg1 | apply xc1 | apply xg2 | apply xc2 | apply xc3 | apply xc4 | apply xg3 | apply xg4) <;> intro _
  refine EvQ_call ?_ ?_ (by rw [hP, hO]; exact threadB th _ _ ht) ?_
  · simp (maxSteps := 2000000) (disch := omega) only [go_sem, *]
  · simp (maxSteps := 2000000) (disch := omega) only [go_sem, *]
  rintro r h1 n1 ⟨rfl, hh, hn1⟩
  subst hh hn1
  by_cases c1 : a < 0
  · rw [if_neg (by omega)] at hQ
    repeat' first | simp (maxSteps := 2000000) (disch := omega) only [go_sem, *, Try.results68] | (first | apply xg1 | apply xc1 | apply xg2 | apply xc2 | apply xc3 | apply xc4 | apply xg3 | apply xg4) <;> intro _
  · by_cases c2 : (len : Int) ≤ a
    · rw [if_neg (by omega)] at hQ
      repeat' first | simp (maxSteps := 2000000) (disch := omega) only [go_sem, *, Try.results68] | (first | apply xg1 | apply xc1 | apply xg2 | apply xc2 | apply xc3 | apply xc4 | apply xg3 | apply xg4) <;> intro _
    · rw [if_pos (by omega)] at hQ
      repeat' first | simp (maxSteps := 2000000) (disch := omega) only [go_sem, *, Try.results68] | (first | apply xg1 | apply xc1 | apply xg2 | apply xc2 | apply xc3 | apply xc4 | apply xg3 | apply xg4) <;> intro _
theorem accB0 {O : Over} (mb wb len cap : Nat) (L : List Value) (th : Int) (a : Nat) (old v : Int) (h : PT ABlk) (n : Nat) (hW : WfH h n) (hb : h.get mb = some (.cells (PT.ofList .leaf 0 [.slice (some ⟨wb, 0, none⟩) len cap, .slice none 0 0]) false)) (hw : h.get wb = some (.cells (PT.ofList .leaf 0 L) false)) (hne : wb ≠ mb)
    (ha : a < len) (ho : L[a]? = some (.int .u64 old)) :
    EvB Try.prog O 69 [.pointer (some ⟨mb, 0, none⟩), .int .i64 th, .int .i64 a, .int .u8 2, .int .u64 v, .bool false] h n fun r h' n' => r = .tuple ⟨[]⟩ ∧ n' = n + 3 ∧
      h' = (((((h.set n (some (.cells (PT.ofList .leaf 0 [.int .i64 0, .int .i64 0, .int .u8 0, .int .u64 0, .int .u64 0, .bool false]) false))).set n (some (.cells (PT.ofList .leaf 0 (acc th a old v)) false))).set wb (some (.cells (PT.ofList .leaf 0 (L.set a (.int .u64 v))) false))).set (n + 1) (some (.cells (PT.ofList .leaf 0 (acc th a old v)) false))).set (n + 2) (some (.cells (PT.ofList .leaf 0 (acc th a old v)) false))).set mb (some (.cells (PT.ofList .leaf 0 [.slice (some ⟨wb, 0, none⟩) len cap, .slice (some ⟨n + 2, 0, none⟩) 1 (capInf + 6)]) false)) := by
  have hmn := hW.lt hb
  have hwn := hW.lt hw
  have ha2 : (a : Int) < len := by omega
  have hal := (List.getElem?_eq_some_iff.1 ho).1
  refine EvB_run (N := 43) Try.func69 rfl rfl fun z hP hO hro hN hQ => ?_
  repeat' first | simp (maxSteps := 2000000) (disch := omega) only [go_sem, *, Try.results69] | (first | apply xg1 | apply xc1 | apply xg2 | apply xc2 | apply xc3 | apply xc4 | apply xg3 | apply xg4) <;> intro _ | (first | apply xh1 | apply xh2 | apply xh3 | apply xh4) <;> intro _ | refine EvK_draw (id := 2) (L := w69_2) (by kernel_rfl) (by kernel_rfl) ?_
  exact ⟨rfl, rfl⟩
theorem accB1 {O : Over} (mb wb len cap g k : Nat) (L G : List Value) (th : Int) (a : Nat) (old v : Int) (h : PT ABlk) (n : Nat) (hW : WfH h n) (hb : h.get mb = some (.cells (PT.ofList .leaf 0 [.slice (some ⟨wb, 0, none⟩) len cap, .slice (some ⟨g, 0, none⟩) k (capInf + 6)]) false)) (hw : h.get wb = some (.cells (PT.ofList .leaf 0 L) false)) (hne : wb ≠ mb)
    (hg : h.get g = some (.cells (PT.ofList .leaf 0 G) false)) (hG : G.length = k * 6) (hk : 0 < k) (hk2 : k ≤ 1000000) (hgm : g ≠ mb) (hgw : g ≠ wb) (ha : a < len) (ho : L[a]? = some (.int .u64 old)) :
    EvB Try.prog O 69 [.pointer (some ⟨mb, 0, none⟩), .int .i64 th, .int .i64 a, .int .u8 2, .int .u64 v, .bool false] h n fun r h' n' => r = .tuple ⟨[]⟩ ∧ n' = n + 3 ∧
      h' = ((((((h.set n (some (.cells (PT.ofList .leaf 0 [.int .i64 0, .int .i64 0, .int .u8 0, .int .u64 0, .int .u64 0, .bool false]) false))).set n (some (.cells (PT.ofList .leaf 0 (acc th a old v)) false))).set wb (some (.cells (PT.ofList .leaf 0 (L.set a (.int .u64 v))) false))).set (n + 1) (some (.cells (PT.ofList .leaf 0 (acc th a old v)) false))).set g none).set (n + 2) (some (.cells (PT.ofList .leaf 0 (G ++ acc th a old v)) false))).set mb (some (.cells (PT.ofList .leaf 0 [.slice (some ⟨wb, 0, none⟩) len cap, .slice (some ⟨n + 2, 0, none⟩) (k + 1) (capInf + 6)]) false)) := by
  have hmn := hW.lt hb
  have hwn := hW.lt hw
  have hgn := hW.lt hg
  have ha2 : (a : Int) < len := by omega
  have hal := (List.getElem?_eq_some_iff.1 ho).1
  have htk : G.take (k * 6) = G := List.take_of_length_le (by omega)
  have hbq : (k * 6).beq (k * 6) = true := Nat.beq_refl _
  have hble : (k + 1).ble 1048576 = true := Nat.ble_eq_true_of_le (by omega)
  refine EvB_run (N := 43) Try.func69 rfl rfl fun z hP hO hro hN hQ => ?_
  repeat' first | simp (maxSteps := 2000000) (disch := omega) only [go_sem, *, Try.results69] | (first | apply xg1 | apply xc1 | apply xg2 | apply xc2 | apply xc3 | apply xc4 | apply xg3 | apply xg4) <;> intro _ | (first | apply xh1 | apply xh2 | apply xh3 | apply xh4) <;> intro _ | refine EvK_draw (id := 2) (L := w69_2) (by kernel_rfl) (by kernel_rfl) ?_
  exact ⟨rfl, rfl⟩
end Go.Proofs.Ytapcgfakefmemaa
set_option linter.unusedVariables false
set_option linter.unusedSimpArgs false
namespace Go.Proofs.Ytapcgfakefmemaa
open Go.Am
theorem rsetB0 {O : Over} (o68 : O 68 = fun _ => none) (o69 : O 69 = fun _ => none) (o88 : O 88 = fun _ => none) (mb wb len cap : Nat) (L : List Value) (th : Int) (a : Nat) (old v : Int) (h : PT ABlk) (n : Nat) (hW : WfH h n) (hb : h.get mb = some (.cells (PT.ofList .leaf 0 [.slice (some ⟨wb, 0, none⟩) len cap, .slice none 0 0]) false)) (hw : h.get wb = some (.cells (PT.ofList .leaf 0 L) false)) (hne : wb ≠ mb)
    (ht : 0 ≤ th ∧ th < 64) (ha : a < len) (ho : L[a]? = some (.int .u64 old)) :
    EvB Try.prog O 36 [.pointer (some ⟨mb, 0, none⟩), .int .i64 th, .int .i64 a, .int .u64 v] h n fun r h' n' => r = .int .i64 0 ∧ n' = n + 3 ∧
      h' = (((((h.set n (some (.cells (PT.ofList .leaf 0 [.int .i64 0, .int .i64 0, .int .u8 0, .int .u64 0, .int .u64 0, .bool false]) false))).set n (some (.cells (PT.ofList .leaf 0 (acc th a old v)) false))).set wb (some (.cells (PT.ofList .leaf 0 (L.set a (.int .u64 v))) false))).set (n + 1) (some (.cells (PT.ofList .leaf 0 (acc th a old v)) false))).set (n + 2) (some (.cells (PT.ofList .leaf 0 (acc th a old v)) false))).set mb (some (.cells (PT.ofList .leaf 0 [.slice (some ⟨wb, 0, none⟩) len cap, .slice (some ⟨n + 2, 0, none⟩) 1 (capInf + 6)]) false)) := by
  refine EvB_run (N := 22) Try.func36 rfl rfl fun z hP hO hro hN hQ => ?_
  repeat' first | simp (maxSteps := 2000000) (disch := omega) only [go_sem, *, Try.results36] | (first | apply xg1 | apply xc1 | apply xg2 | apply xc2 | apply xc3 | apply xc4 | apply xg3 | apply xg4) <;> intro _
  refine EvQ_call ?_ ?_ (by rw [hP, hO]; exact rmemCheckB o88 mb _ len cap _ false th a _ _ hb ht) ?_
  · simp (maxSteps := 2000000) (disch := omega) only [go_sem, *]
  · simp (maxSteps := 2000000) (disch := omega) only [go_sem, *]
  rintro r h1 n1 ⟨rfl, rfl, rfl⟩
  rw [if_pos (by omega)]
  repeat' first | simp (maxSteps := 2000000) (disch := omega) only [go_sem, *, Try.results36] | (first | apply xg1 | apply xc1 | apply xg2 | apply xc2 | apply xc3 | apply xc4 | apply xg3 | apply xg4) <;> intro _
  refine EvQ_call ?_ ?_ (by rw [hP, hO]; exact accB0 mb wb len cap L th a old v _ _ hW hb hw hne ha ho) ?_
  · simp (maxSteps := 2000000) (disch := omega) only [go_sem, *]
  · simp (maxSteps := 2000000) (disch := omega) only [go_sem, *]
  rintro r h3 n3 ⟨rfl, rfl, hh3⟩
  rw [← hh3] at hQ
  clear hh3 hb hw
  repeat' first | simp (maxSteps := 2000000) (disch := omega) only [go_sem, *, Try.results36] | (first | apply xg1 | apply xc1 | apply xg2 | apply xc2 | apply xc3 | apply xc4 | apply xg3 | apply xg4) <;> intro _
theorem rsetB1 {O : Over} (o68 : O 68 = fun _ => none) (o69 : O 69 = fun _ => none) (o88 : O 88 = fun _ => none) (mb wb len cap g k : Nat) (L G : List Value) (th : Int) (a : Nat) (old v : Int) (h : PT ABlk) (n : Nat) (hW : WfH h n) (hb : h.get mb = some (.cells (PT.ofList .leaf 0 [.slice (some ⟨wb, 0, none⟩) len cap, .slice (some ⟨g, 0, none⟩) k (capInf + 6)]) false)) (hw : h.get wb = some (.cells (PT.ofList .leaf 0 L) false)) (hne : wb ≠ mb)
    (hg : h.get g = some (.cells (PT.ofList .leaf 0 G) false)) (hG : G.length = k * 6) (hk : 0 < k) (hk2 : k ≤ 1000000) (hgm : g ≠ mb) (hgw : g ≠ wb) (ht : 0 ≤ th ∧ th < 64) (ha : a < len) (ho : L[a]? = some (.int .u64 old)) :
    EvB Try.prog O 36 [.pointer (some ⟨mb, 0, none⟩), .int .i64 th, .int .i64 a, .int .u64 v] h n fun r h' n' => r = .int .i64 0 ∧ n' = n + 3 ∧
      h' = ((((((h.set n (some (.cells (PT.ofList .leaf 0 [.int .i64 0, .int .i64 0, .int .u8 0, .int .u64 0, .int .u64 0, .bool false]) false))).set n (some (.cells (PT.ofList .leaf 0 (acc th a old v)) false))).set wb (some (.cells (PT.ofList .leaf 0 (L.set a (.int .u64 v))) false))).set (n + 1) (some (.cells (PT.ofList .leaf 0 (acc th a old v)) false))).set g none).set (n + 2) (some (.cells (PT.ofList .leaf 0 (G ++ acc th a old v)) false))).set mb (some (.cells (PT.ofList .leaf 0 [.slice (some ⟨wb, 0, none⟩) len cap, .slice (some ⟨n + 2, 0, none⟩) (k + 1) (capInf + 6)]) false)) := by
  refine EvB_run (N := 22) Try.func36 rfl rfl fun z hP hO hro hN hQ => ?_
  repeat' first | simp (maxSteps := 2000000) (disch := omega) only [go_sem, *, Try.results36] | (first | apply xg1 | apply xc1 | apply xg2 | apply xc2 | apply xc3 | apply xc4 | apply xg3 | apply xg4) <;> intro _
  refine EvQ_call ?_ ?_ (by rw [hP, hO]; exact rmemCheckB o88 mb _ len cap _ false th a _ _ hb ht) ?_
  · simp (maxSteps := 2000000) (disch := omega) only [go_sem, *]
  · simp (maxSteps := 2000000) (disch := omega) only [go_sem, *]
  rintro r h1 n1 ⟨rfl, rfl, rfl⟩
  rw [if_pos (by omega)]
  repeat' first | simp (maxSteps := 2000000) (disch := omega) only [go_sem, *, Try.results36] | (first | apply xg1 | apply xc1 | apply xg2 | apply xc2 | apply xc3 | apply xc4 | apply xg3 | apply xg4) <;> intro _
  refine EvQ_call ?_ ?_ (by rw [hP, hO]; exact accB1 mb wb len cap g k L G th a old v _ _ hW hb hw hne hg hG hk hk2 hgm hgw ha ho) ?_
  · simp (maxSteps := 2000000) (disch := omega) only [go_sem, *]
  · simp (maxSteps := 2000000) (disch := omega) only [go_sem, *]
  rintro r h3 n3 ⟨rfl, rfl, hh3⟩
  rw [← hh3] at hQ
  clear hh3 hb hw
  repeat' first | simp (maxSteps := 2000000) (disch := omega) only [go_sem, *, Try.results36] | (first | apply xg1 | apply xc1 | apply xg2 | apply xc2 | apply xc3 | apply xc4 | apply xg3 | apply xg4) <;> intro _
noncomputable def rstoreS : List Value → Option (AP Value)
  | [.pointer (some ⟨mb, 0, none⟩), .int .i64 th, .int .i64 a, .int .u64 v] => some <| AP.row mb fun (S : List Value) ro => match S with
    | [.slice (some ⟨wb, 0, none⟩) len cap, lg] => AP.row wb fun (L : List Value) ro2 => match (L[a.toNat]? : Option Value) with
      | some (.int .u64 old) => cond (decide (ro = false ∧ ro2 = false ∧ 0 ≤ th ∧ th < 64 ∧ 0 ≤ a ∧ a < len ∧ wb ≠ mb)) (stM mb wb len cap L th a.toNat old v lg) (.fail "")
      | _ => .fail ""
    | _ => .fail ""
  | _ => none
set_option maxHeartbeats 4000000 in
theorem rstoreF : SoundF Try.prog 36 rstoreS := by
  refine soundF (O := tabO []) (tab_sound .nil) orders ?_
  intro args m hm h n N Old OldId v h1 n1 hr hold hid hN
  unfold rstoreS at hm
  split at hm
  · rename_i mb th a x
    simp only [Option.some.injEq] at hm
    subst hm
    replace hr := run_row hr
    obtain ⟨S, ro, hS, hr⟩ := hr
    split at hr
    · rename_i wb len cap lg
      replace hr := run_row hr
      obtain ⟨L, ro2, hL, hr⟩ := hr
      split at hr
      · rename_i old ho
        replace hr := run_cond hr
        obtain ⟨hc, hr⟩ := hr
        obtain ⟨rfl, rfl, t0, t1, a0, a1, hne⟩ := of_decide_eq_true hc
        clear hc
        obtain ⟨an, rfl⟩ : ∃ an : Nat, a = an := ⟨a.toNat, by omega⟩
        rw [Int.toNat_natCast] at ho hr
        have hlt : ∀ i B, h.get i = some B → i < N ∧ ¬ (n ≤ i ∧ i < n1) := fun i B e => hid i (hold.id i B e)
        have hW : WfH h N := WfH.of_lt fun i B e => (hlt i B e).1
        have hmb := hlt _ _ hS
        have hwb := hlt _ _ hL
        have hSo : Old (.slice (some ⟨wb, 0, none⟩) len cap) := hold.cells mb _ _ 0 _ hS (by rw [PT.get_ofList_leaf]; rfl)
        have hLr : ∀ I : Nat → Nat → Prop, VRens I Old L L := fun I => VRens.refl _ fun u hu => by
          obtain ⟨j, hj⟩ := List.mem_iff_getElem?.1 hu
          exact .old _ (hold.cells wb _ _ j u hL (by rw [PT.get_ofList_leaf]; exact hj))
        unfold stM at hr
        split at hr
        · replace hr := run_set (run_set (run_new hr))
          obtain ⟨hs, rfl⟩ := run_pure hr
          have e1 : h1 = _ := congrArg HS.heap hs
          have e2 : n1 = _ := congrArg HS.next hs
          simp only [S0] at e1 e2
          subst e1 e2
          clear hs hr
          refine (rsetB0 (O := tabO []) rfl rfl rfl mb wb len cap L th an old x h N hW hS hL hne ⟨t0, t1⟩ (by omega) ho).mono ?_
          rintro v2 h2 n2 ⟨rfl, rfl, rfl⟩
          refine ⟨fun _ => N + 2, fun i _ _ => Nat.le_add_right N 2, fun i j q1 q2 q3 q4 _ => by omega, .int _ _, fun i B e => ?_⟩
          have hnew : IdR OldId n (n + 1) (fun _ => N + 2) n (N + 2) := .inr ⟨Nat.le_refl _, Nat.lt_succ_self _, rfl⟩
          rw [PT.get_set] at e
          split at e
          · rename_i hi; subst hi
            obtain rfl := Option.some.inj e
            refine .inr ⟨_, ?_, .cells _ _ _ (.cons _ _ _ _ (.old _ hSo) (.cons _ _ _ _ (.slice n 0 1 (capInf + 6) (N + 2) hnew) .nil))⟩
            rw [sg_old (by omega)]
            simp (disch := omega) only [go_sem]
          · rw [PT.get_set] at e
            split at e
            · rename_i hi; subst hi
              obtain rfl := Option.some.inj e
              refine .inr ⟨_, ?_, .cells _ _ _ ((hLr _).set an (.int .u64 x))⟩
              rw [sg_old (by omega)]
              simp (disch := omega) only [go_sem]
            · rw [PT.get_set] at e
              split at e
              · rename_i hi; subst hi
                obtain rfl := Option.some.inj e
                refine .inr ⟨_, ?_, .cells _ _ _ accV⟩
                rw [sg_new (by omega)]
                simp (disch := omega) only [go_sem]
              · have := (hlt i B e).1
                refine .inl ⟨e, ?_⟩
                simp (disch := omega) only [go_sem, e]
        · rename_i g0 k c
          replace hr := run_row hr
          obtain ⟨G, gro, hG, hr⟩ := hr
          replace hr := run_cond hr
          obtain ⟨hc, hr⟩ := hr
          obtain ⟨rfl, rfl, k0, k1, hGl, d1, d2⟩ := of_decide_eq_true hc
          clear hc
          have hg0 := hlt _ _ hG
          have hGr : ∀ I : Nat → Nat → Prop, VRens I Old G G := fun I => VRens.refl _ fun u hu => by
            obtain ⟨j, hj⟩ := List.mem_iff_getElem?.1 hu
            exact .old _ (hold.cells g0 _ _ j u hG (by rw [PT.get_ofList_leaf]; exact hj))
          replace hr := run_set (run_set (run_new (run_kill hr)))
          obtain ⟨hs, rfl⟩ := run_pure hr
          have e1 : h1 = _ := congrArg HS.heap hs
          have e2 : n1 = _ := congrArg HS.next hs
          simp only [S0] at e1 e2
          subst e1 e2
          clear hs hr
          refine (rsetB1 (O := tabO []) rfl rfl rfl mb wb len cap g0 k L G th an old x h N hW hS hL hne hG hGl k0 k1 d1 d2 ⟨t0, t1⟩ (by omega) ho).mono ?_
          rintro v2 h2 n2 ⟨rfl, rfl, rfl⟩
          refine ⟨fun _ => N + 2, fun i _ _ => Nat.le_add_right N 2, fun i j q1 q2 q3 q4 _ => by omega, .int _ _, fun i B e => ?_⟩
          have hnew : IdR OldId n (n + 1) (fun _ => N + 2) n (N + 2) := .inr ⟨Nat.le_refl _, Nat.lt_succ_self _, rfl⟩
          rw [PT.get_set] at e
          split at e
          · rename_i hi; subst hi
            obtain rfl := Option.some.inj e
            refine .inr ⟨_, ?_, .cells _ _ _ (.cons _ _ _ _ (.old _ hSo) (.cons _ _ _ _ (.slice n 0 (k + 1) (capInf + 6) (N + 2) hnew) .nil))⟩
            rw [sg_old (by omega)]
            simp (disch := omega) only [go_sem]
          · rw [PT.get_set] at e
            split at e
            · rename_i hi; subst hi
              obtain rfl := Option.some.inj e
              refine .inr ⟨_, ?_, .cells _ _ _ ((hLr _).set an (.int .u64 x))⟩
              rw [sg_old (by omega)]
              simp (disch := omega) only [go_sem]
            · rw [PT.get_set] at e
              split at e
              · rename_i hi; subst hi
                obtain rfl := Option.some.inj e
                refine .inr ⟨_, ?_, .cells _ _ _ ((hGr _).append accV)⟩
                rw [sg_new (by omega)]
                simp (disch := omega) only [go_sem]
              · rw [PT.get_set] at e
                split at e
                · simp at e
                · have := (hlt i B e).1
                  refine .inl ⟨e, ?_⟩
                  simp (disch := omega) only [go_sem, e]
        · exact (run_fail hr).elim
      · exact (run_fail hr).elim
    · exact (run_fail hr).elim
  · simp at hm
end Go.Proofs.Ytapcgfakefmemaa
