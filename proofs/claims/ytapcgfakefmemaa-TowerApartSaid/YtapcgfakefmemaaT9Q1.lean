/-
  A part of the proof: contracts of inner functions.
-/
import Derived.Test.YtapcgfakefmemaaT9P4
import Derived.Test.YtapcgfakefmemaaAmY4
import Derived.Test.YtapcgfakefmemaaT9P7
set_option linter.unusedVariables false
set_option linter.unusedSimpArgs false
namespace Go.Proofs.Ytapcgfakefmemaa
open Go.Am
structure LayV where
  S : List Value
  H : List Int
  T : List Int
  P : List Int
  V : Int
noncomputable def rdL : Value → AP LayV
  | .pointer (some ⟨lb, 0, none⟩) => AP.row lb fun (S : List Value) _ => match (S[27]? : Option Value), (S[28]? : Option Value) with
    | some hv, some tv => (rdInts .i64 hv).bind fun H => (rdInts .i64 tv).bind fun T => match decInts .i64 ((S.drop 16).take 10), (S[29]? : Option Value) with
      | some P, some (.int .i64 V) => cond (Nat.blt H.length 100000 && Nat.beq T.length H.length && Nat.beq S.length 30) (.pure ⟨S, H, T, P, V⟩) (.fail "")
      | _, _ => .fail ""
    | _, _ => .fail ""
  | _ => .fail ""
theorem rdL_reads (v : Value) : Reads (rdL v) := by
  unfold rdL
  split
  · refine row_reads fun S ro => ?_
    split
    · refine rdInts_reads.bind fun H => rdInts_reads.bind fun T => ?_
      split
      · exact .cond (.pure _) (.fail _)
      · exact .fail _
    · exact .fail _
  · exact .fail _
theorem rdL_look {v : Value} {h : PT ABlk} {l : LayV} (hR : Am.Rows h) (e : (rdL v).look h = some l) : ∃ lb ro hv tv, v = .pointer (some ⟨lb, 0, none⟩) ∧ h.get lb = some (.cells (PT.ofList .leaf 0 l.S) ro) ∧ l.S[27]? = some hv ∧ l.S[28]? = some tv ∧
    IsInts .i64 h hv l.H ∧ IsInts .i64 h tv l.T ∧ l.H.length < 100000 ∧ l.T.length = l.H.length ∧ l.S.length = 30 ∧ (l.S.drop 16).take 10 = l.P.map (.int .i64) ∧ l.S[29]? = some (.int .i64 l.V) ∧ l.S[23]? = some (.int .i64 (l.P.getD 7 0)) := by
  unfold rdL at e
  split at e
  · rename_i lb
    obtain ⟨S, ro, hb, e⟩ := look_row e
    split at e
    · rename_i hv tv h27 h28
      obtain ⟨H, e1, e⟩ := look_bind_some e
      obtain ⟨T, e2, e⟩ := look_bind_some e
      split at e
      · rename_i P V hP hV
        obtain ⟨hc, e⟩ := look_cond e
        rw [look_pure] at e
        obtain rfl := Option.some.inj e
        simp only [Bool.and_eq_true] at hc
        have h30 := Nat.eq_of_beq_eq_true hc.2
        have hPe := decInts_eq hP
        refine ⟨lb, ro, hv, tv, rfl, hb, h27, h28, isInts_look e1 hR, isInts_look e2 hR, Nat.le_of_ble_eq_true hc.1.1, Nat.eq_of_beq_eq_true hc.1.2, h30, hPe, hV, ?_⟩
        have hPl : P.length = 10 := by have := congrArg List.length hPe; simp at this; omega
        have h7 : ((S.drop 16).take 10)[7]? = (P.map (Value.int .i64))[7]? := by rw [hPe]
        rw [List.getElem?_take, if_pos (by omega), List.getElem?_drop] at h7
        rw [show 16 + 7 = 23 from rfl] at h7
        simp only
        rw [h7, List.getElem?_map, List.getElem?_eq_getElem (by omega)]
        simp [List.getD, List.getElem?_eq_getElem (show 7 < P.length by omega)]
      · simp [AP.look] at e
    · simp [AP.look] at e
  · simp [AP.look] at e
def hgtA (H : List Int) (t : Int) : Int := if 1 ≤ t ∧ t ≤ H.length then H.getD (t - 1).toNat 0 else 0
def hgtE (H : List Int) (t : Int) : Int := if 1 ≤ t ∧ t ≤ H.length then 0 else 3
def heightV (H : List Int) (t : Int) : Value := .tuple ⟨[.int .i64 (hgtA H t), .int .i64 (hgtE H t)]⟩
noncomputable def heightS : List Value → Option (AP Value)
  | [.pointer none, .int .i64 t] => some (.pure (.tuple ⟨[.int .i64 0, .int .i64 1]⟩))
  | [.pointer (some a), .int .i64 t] => some ((rdL (.pointer (some a))).bind fun l => .pure (heightV l.H t))
  | _ => none
abbrev Ow : Over := tabO [(41, withinS)]
theorem Owok : SoundO Try.prog Ow := tab_sound (.cons withinF .nil)
theorem heightF : SoundF Try.prog 12 heightS := by
  refine soundF_look Owok orders ?_ ?_ ?_
  · intro args m hm
    unfold heightS at hm
    split at hm
    · obtain rfl := Option.some.inj hm; exact .pure _
    · obtain rfl := Option.some.inj hm; exact (rdL_reads _).bind fun l => .pure _
    · simp at hm
  · intro args m h v hm e
    unfold heightS at hm
    split at hm
    · obtain rfl := Option.some.inj hm; rw [look_pure] at e; obtain rfl := Option.some.inj e; exact .tuple _ (by simp; exact ⟨.int _ _, .int _ _⟩)
    · obtain rfl := Option.some.inj hm
      obtain ⟨l, _, e⟩ := look_bind_some e
      rw [look_pure] at e; obtain rfl := Option.some.inj e
      exact .tuple _ (by simp; exact ⟨.int _ _, .int _ _⟩)
    · simp at hm
  · intro args m h N v hm hR hlt e
    unfold heightS at hm
    split at hm
    · obtain rfl := Option.some.inj hm; rw [look_pure] at e; obtain rfl := Option.some.inj e
      refine EvB_run (N := 24) Try.func12 rfl rfl ?_
      intro z hP hO hro hN hQ
      repeat' first | simp (maxSteps := 2000000) (disch := first | omega | assumption | exact Kept.refl _) only [go_sem, *, Try.results12, implies_true] | (first | apply xg1 | apply xc1 | apply xg2 | apply xc2 | apply xc3 | apply xc4 | apply xg3 | apply xg4) <;> intro _ | (first | apply xh1 | apply xh2 | apply xh3 | apply xh4) <;> intro _ | refine EvK_draw (by cbv) (by first | rfl | cbv) ?_
    · rename_i pa t
      · obtain rfl := Option.some.inj hm
        obtain ⟨l, hl, e⟩ := look_bind_some e
        rw [look_pure] at e; obtain rfl := Option.some.inj e
        obtain ⟨lb, ro, hv, tv, hp, hb, h27, h28, hH, hT, hHl, hTl, hSl, hPm, hVm, hP7⟩ := rdL_look hR hl
        cases hp
        obtain ⟨a, c, rfl, hA⟩ := hH.len
        clear hl
        by_cases hin : 1 ≤ t ∧ t ≤ l.H.length
        · obtain ⟨b, off, sp, L, ro', rfl, hb', hL⟩ := hA (t - 1).toNat (by omega)
          have hin2 := hin.1
          have hin3 := hin.2
          refine EvB_run (N := 24) Try.func12 rfl rfl ?_
          intro z hP hO hro hN hQ
          repeat' first | simp (maxSteps := 2000000) (disch := first | omega | assumption | exact Kept.refl _) only [go_sem, *, Try.results12, withinS, heightV, hgtA, hgtE, implies_true] | (first | apply xg1 | apply xc1 | apply xg2 | apply xc2 | apply xc3 | apply xc4 | apply xg3 | apply xg4) <;> intro _ | (first | apply xh1 | apply xh2 | apply xh3 | apply xh4) <;> intro _ | refine EvK_draw (by cbv) (by first | rfl | cbv) ?_
        · refine EvB_run (N := 24) Try.func12 rfl rfl ?_
          intro z hP hO hro hN hQ
          repeat' first | simp (maxSteps := 2000000) (disch := first | omega | assumption | exact Kept.refl _) only [go_sem, *, Try.results12, withinS, heightV, hgtA, hgtE, implies_true] | (first | apply xg1 | apply xc1 | apply xg2 | apply xc2 | apply xc3 | apply xc4 | apply xg3 | apply xg4) <;> intro _ | (first | apply xh1 | apply xh2 | apply xh3 | apply xh4) <;> intro _ | refine EvK_draw (by cbv) (by first | rfl | cbv) ?_
    · simp at hm
--MORE
def wrdA (l : LayV) (t w : Int) : Int := if (1 ≤ t ∧ t ≤ l.H.length) ∧ (0 ≤ w ∧ w ≤ 4) then IntKind.i64.wrap (l.T.getD (t - 1).toNat 0 + w) else 0
def wrdE (l : LayV) (t w : Int) : Int := if (1 ≤ t ∧ t ≤ l.H.length) ∧ (0 ≤ w ∧ w ≤ 4) then 0 else 3
def wordV (l : LayV) (t w : Int) : Value := .tuple ⟨[.int .i64 (wrdA l t w), .int .i64 (wrdE l t w)]⟩
noncomputable abbrev Owh : Over := tabO [(41, withinS), (12, heightS)]
theorem Owhok : SoundO Try.prog Owh := tab_sound (.cons withinF (.cons heightF .nil))
noncomputable def towersS : List Value → Option (AP Value)
  | [.pointer none] => some (.pure (.int .i64 0))
  | [.pointer (some p)] => some ((rdL (.pointer (some p))).bind fun l => .pure (.int .i64 l.H.length))
  | _ => none
set_option maxRecDepth 100000 in
set_option maxHeartbeats 4000000 in
theorem towersF : SoundF Try.prog 40 towersS := by
  refine soundF_look (tab_sound .nil) orders ?_ ?_ ?_
  · intro args m hm
    unfold towersS at hm
    split at hm
    · obtain rfl := Option.some.inj hm; exact .pure _
    · obtain rfl := Option.some.inj hm; exact (rdL_reads _).bind fun l => .pure _
    · simp at hm
  · intro args m h v hm e
    unfold towersS at hm
    split at hm
    · obtain rfl := Option.some.inj hm; rw [look_pure] at e; obtain rfl := Option.some.inj e; exact .int _ _
    · obtain rfl := Option.some.inj hm
      obtain ⟨l, hl, e⟩ := look_bind_some e
      rw [look_pure] at e; obtain rfl := Option.some.inj e
      exact .int _ _
    · simp at hm
  · intro args m h N v hm hR hlt e
    unfold towersS at hm
    split at hm
    · obtain rfl := Option.some.inj hm; rw [look_pure] at e; obtain rfl := Option.some.inj e
      refine EvB_run (N := 10) Try.func40 rfl rfl ?_
      intro z hP hO hro hN hQ
      repeat' first | simp (maxSteps := 2000000) (disch := first | omega | assumption | exact Kept.refl _) only [go_sem, *, Try.results40, implies_true] | (first | apply xg1 | apply xc1 | apply xg2 | apply xc2 | apply xc3 | apply xc4 | apply xg3 | apply xg4) <;> intro _
      all_goals first | (intro i hi; simp (disch := omega) only [heap_ne]; done) | (refine ⟨?_, fun i hi => by simp (disch := omega) only [heap_ne]⟩; rfl)
    · rename_i p
      obtain rfl := Option.some.inj hm
      obtain ⟨l, hl, e⟩ := look_bind_some e
      rw [look_pure] at e; obtain rfl := Option.some.inj e
      have hW := WfH.of_lt hlt
      have hrl := fun h' hk z f d ops r K m n => @EvV_look _ _ _ _ h' hl z f d ops r K m n hk
      obtain ⟨lb, ro, hv, tv, hp, hb, h27, h28, hH, hT, hHl, hTl, hSl, hPm, hVm, hP7⟩ := rdL_look hR hl
      cases hp
      have hbN := hlt _ _ hb
      clear hm
      · obtain ⟨a, c, rfl, -⟩ := hH.len
        refine EvB_run (N := 10) Try.func40 rfl rfl fun z hP hO hro hN hQ => ?_
        repeat' first | simp (maxSteps := 2000000) (disch := first | omega | assumption | exact Kept.refl _) only [go_sem, *, Try.results40, implies_true] | (first | apply xg1 | apply xc1 | apply xg2 | apply xc2 | apply xc3 | apply xc4 | apply xg3 | apply xg4) <;> intro _
    · simp at hm
noncomputable def wordS : List Value → Option (AP Value)
  | [.pointer none, .int .i64 t, .int .i64 w] => some (.pure (.tuple ⟨[.int .i64 0, .int .i64 1]⟩))
  | [.pointer (some p), .int .i64 t, .int .i64 w] => some ((rdL (.pointer (some p))).bind fun l => .pure (wordV l t w))
  | _ => none
set_option maxRecDepth 100000 in
set_option maxHeartbeats 4000000 in
theorem wordF : SoundF Try.prog 24 wordS := by
  refine soundF_look Owhok orders ?_ ?_ ?_
  · intro args m hm
    unfold wordS at hm
    split at hm
    · obtain rfl := Option.some.inj hm; exact .pure _
    · obtain rfl := Option.some.inj hm; exact (rdL_reads _).bind fun l => .pure _
    · simp at hm
  · intro args m h v hm e
    unfold wordS at hm
    split at hm
    · obtain rfl := Option.some.inj hm; rw [look_pure] at e; obtain rfl := Option.some.inj e; exact .tuple _ (by simp; exact ⟨.int _ _, .int _ _⟩)
    · obtain rfl := Option.some.inj hm
      obtain ⟨l, hl, e⟩ := look_bind_some e
      rw [look_pure] at e; obtain rfl := Option.some.inj e
      exact .tuple _ (by simp; exact ⟨.int _ _, .int _ _⟩)
    · simp at hm
  · intro args m h N v hm hR hlt e
    unfold wordS at hm
    split at hm
    · obtain rfl := Option.some.inj hm; rw [look_pure] at e; obtain rfl := Option.some.inj e
      refine EvB_run (N := 32) Try.func24 rfl rfl ?_
      intro z hP hO hro hN hQ
      repeat' first | simp (maxSteps := 2000000) (disch := first | omega | assumption | exact Kept.refl _) only [go_sem, *, Try.results24, withinS, heightS, heightV, hgtA, hgtE, wordV, wrdA, wrdE, implies_true] | (first | apply xg1 | apply xc1 | apply xg2 | apply xc2 | apply xc3 | apply xc4 | apply xg3 | apply xg4) <;> intro _
      all_goals first | (intro i hi; simp (disch := omega) only [heap_ne]; done) | (refine ⟨?_, fun i hi => by simp (disch := omega) only [heap_ne]⟩; rfl)
    · rename_i p t w
      obtain rfl := Option.some.inj hm
      obtain ⟨l, hl, e⟩ := look_bind_some e
      rw [look_pure] at e; obtain rfl := Option.some.inj e
      have hW := WfH.of_lt hlt
      have hrl := fun h' hk z f d ops r K m n => @EvV_look _ _ _ _ h' hl z f d ops r K m n hk
      obtain ⟨lb, ro, hv, tv, hp, hb, h27, h28, hH, hT, hHl, hTl, hSl, hPm, hVm, hP7⟩ := rdL_look hR hl
      cases hp
      have hbN := hlt _ _ hb
      clear hm
      by_cases hin : 1 ≤ t ∧ t ≤ l.H.length
      · obtain ⟨a, c, rfl, hA⟩ := hT.len
        obtain ⟨b, off, sp, L, ro', rfl, hb', hL⟩ := hA (t - 1).toNat (by omega)
        have hin2 := hin.1
        have hin3 := hin.2
        clear hl hA
        refine EvB_run (N := 32) Try.func24 rfl rfl fun z hP hO hro hN hQ => ?_
        repeat' first | simp (maxSteps := 2000000) (disch := first | omega | assumption | exact Kept.refl _) only [go_sem, *, Try.results24, withinS, heightS, heightV, hgtA, hgtE, wordV, wrdA, wrdE, implies_true] | (first | apply xg1 | apply xc1 | apply xg2 | apply xc2 | apply xc3 | apply xc4 | apply xg3 | apply xg4) <;> intro _
      · clear hl
        refine EvB_run (N := 32) Try.func24 rfl rfl fun z hP hO hro hN hQ => ?_
        repeat' first | simp (maxSteps := 2000000) (disch := first | omega | assumption | exact Kept.refl _) only [go_sem, *, Try.results24, withinS, heightS, heightV, hgtA, hgtE, wordV, wrdA, wrdE, implies_true] | (first | apply xg1 | apply xc1 | apply xg2 | apply xc2 | apply xc3 | apply xc4 | apply xg3 | apply xg4) <;> intro _
    · simp at hm
def isHead (l : LayV) (r : Int) : Prop := r < 0 ∧ IntKind.i64.wrap (-1 - r) < l.V
instance (l : LayV) (r : Int) : Decidable (isHead l r) := inferInstanceAs (Decidable (_ ∧ _))
def headA (l : LayV) (r : Int) : Int := IntKind.i64.wrap (l.P.getD 7 0 + IntKind.i64.wrap (IntKind.i64.wrap (-1 - r) * 7))
def headV (l : LayV) (r : Int) : Value := .tuple ⟨[.int .i64 (headA l r), .bool (decide (isHead l r))]⟩
def ltcA (l : LayV) (r : Int) : Int := if isHead l r then headA l r else wrdA l r 3
def ltcE (l : LayV) (r : Int) : Int := if isHead l r then 0 else wrdE l r 3
def latchV (l : LayV) (r : Int) : Value := .tuple ⟨[.int .i64 (ltcA l r), .int .i64 (ltcE l r)]⟩
def nxtH (l : LayV) (r lv : Int) : Prop := (1 ≤ r ∧ r ≤ l.H.length) ∧ (0 ≤ lv ∧ lv ≤ IntKind.i64.wrap (l.H.getD (r - 1).toNat 0 - 1))
instance (l : LayV) (r lv : Int) : Decidable (nxtH l r lv) := inferInstanceAs (Decidable ((_ ∧ _) ∧ (_ ∧ _)))
def nxtA (l : LayV) (r lv : Int) : Int := if isHead l r ∧ (0 ≤ lv ∧ lv ≤ 5) then IntKind.i64.wrap (IntKind.i64.wrap (headA l r + 1) + lv) else if nxtH l r lv then IntKind.i64.wrap (IntKind.i64.wrap (l.T.getD (r - 1).toNat 0 + 5) + lv) else 0
def nxtE (l : LayV) (r lv : Int) : Int := if isHead l r ∧ (0 ≤ lv ∧ lv ≤ 5) then 0 else if nxtH l r lv then 0 else 3
def nextV (l : LayV) (r lv : Int) : Value := .tuple ⟨[.int .i64 (nxtA l r lv), .int .i64 (nxtE l r lv)]⟩
noncomputable def headS : List Value → Option (AP Value)
  | [.pointer (some p), .int .i64 r] => some ((rdL (.pointer (some p))).bind fun l => .pure (headV l r))
  | _ => none
set_option maxRecDepth 100000 in
set_option maxHeartbeats 4000000 in
theorem headF : SoundF Try.prog 50 headS := by
  refine soundF_look (tab_sound .nil) orders ?_ ?_ ?_
  · intro args m hm
    unfold headS at hm
    split at hm
    · obtain rfl := Option.some.inj hm; exact (rdL_reads _).bind fun l => .pure _
    · simp at hm
  · intro args m h v hm e
    unfold headS at hm
    split at hm
    · obtain rfl := Option.some.inj hm
      obtain ⟨l, hl, e⟩ := look_bind_some e
      rw [look_pure] at e; obtain rfl := Option.some.inj e
      exact .tuple _ (by simp; exact ⟨.int _ _, .bool _⟩)
    · simp at hm
  · intro args m h N v hm hR hlt e
    unfold headS at hm
    split at hm
    · rename_i p r
      obtain rfl := Option.some.inj hm
      obtain ⟨l, hl, e⟩ := look_bind_some e
      rw [look_pure] at e; obtain rfl := Option.some.inj e
      have hW := WfH.of_lt hlt
      have hrl := fun h' hk z f d ops r K m n => @EvV_look _ _ _ _ h' hl z f d ops r K m n hk
      obtain ⟨lb, ro, hv, tv, hp, hb, h27, h28, hH, hT, hHl, hTl, hSl, hPm, hVm, hP7⟩ := rdL_look hR hl
      cases hp
      have hbN := hlt _ _ hb
      clear hm
      clear hl
      by_cases h0 : r < 0
      · by_cases h1 : IntKind.i64.wrap (-1 - r) < l.V
        · refine EvB_run (N := 27) Try.func50 rfl rfl fun z hP hO hro hN hQ => ?_
          repeat' first | simp (maxSteps := 2000000) (disch := first | omega | assumption | exact Kept.refl _) only [go_sem, *, Try.results50, headV, headA, isHead, implies_true] | (first | apply xg1 | apply xc1 | apply xg2 | apply xc2 | apply xc3 | apply xc4 | apply xg3 | apply xg4) <;> intro _ | (first | apply xh1 | apply xh2 | apply xh3 | apply xh4) <;> intro _ | refine EvK_draw (id := 2) (L := w50_2) (by kernel_rfl) (by kernel_rfl) ?_
        · refine EvB_run (N := 27) Try.func50 rfl rfl fun z hP hO hro hN hQ => ?_
          repeat' first | simp (maxSteps := 2000000) (disch := first | omega | assumption | exact Kept.refl _) only [go_sem, *, Try.results50, headV, headA, isHead, implies_true] | (first | apply xg1 | apply xc1 | apply xg2 | apply xc2 | apply xc3 | apply xc4 | apply xg3 | apply xg4) <;> intro _ | (first | apply xh1 | apply xh2 | apply xh3 | apply xh4) <;> intro _ | refine EvK_draw (id := 2) (L := w50_2) (by kernel_rfl) (by kernel_rfl) ?_
      · refine EvB_run (N := 27) Try.func50 rfl rfl fun z hP hO hro hN hQ => ?_
        repeat' first | simp (maxSteps := 2000000) (disch := first | omega | assumption | exact Kept.refl _) only [go_sem, *, Try.results50, headV, headA, isHead, implies_true] | (first | apply xg1 | apply xc1 | apply xg2 | apply xc2 | apply xc3 | apply xc4 | apply xg3 | apply xg4) <;> intro _ | (first | apply xh1 | apply xh2 | apply xh3 | apply xh4) <;> intro _ | refine EvK_draw (id := 2) (L := w50_2) (by kernel_rfl) (by kernel_rfl) ?_
    · simp at hm
noncomputable abbrev Ohw : Over := tabO [(50, headS), (24, wordS)]
theorem Ohwok : SoundO Try.prog Ohw := tab_sound (.cons headF (.cons wordF .nil))
noncomputable abbrev Ohh : Over := tabO [(41, withinS), (50, headS), (12, heightS)]
theorem Ohhok : SoundO Try.prog Ohh := tab_sound (.cons withinF (.cons headF (.cons heightF .nil)))
noncomputable def nextS : List Value → Option (AP Value)
  | [.pointer none, .int .i64 r, .int .i64 lv] => some (.pure (.tuple ⟨[.int .i64 0, .int .i64 1]⟩))
  | [.pointer (some p), .int .i64 r, .int .i64 lv] => some ((rdL (.pointer (some p))).bind fun l => .pure (nextV l r lv))
  | _ => none
set_option maxRecDepth 100000 in
set_option maxHeartbeats 4000000 in
theorem nextF : SoundF Try.prog 18 nextS := by
  refine soundF_look Ohhok orders ?_ ?_ ?_
  · intro args m hm
    unfold nextS at hm
    split at hm
    · obtain rfl := Option.some.inj hm; exact .pure _
    · obtain rfl := Option.some.inj hm; exact (rdL_reads _).bind fun l => .pure _
    · simp at hm
  · intro args m h v hm e
    unfold nextS at hm
    split at hm
    · obtain rfl := Option.some.inj hm; rw [look_pure] at e; obtain rfl := Option.some.inj e; exact .tuple _ (by simp; exact ⟨.int _ _, .int _ _⟩)
    · obtain rfl := Option.some.inj hm
      obtain ⟨l, hl, e⟩ := look_bind_some e
      rw [look_pure] at e; obtain rfl := Option.some.inj e
      exact .tuple _ (by simp; exact ⟨.int _ _, .int _ _⟩)
    · simp at hm
  · intro args m h N v hm hR hlt e
    unfold nextS at hm
    split at hm
    · obtain rfl := Option.some.inj hm; rw [look_pure] at e; obtain rfl := Option.some.inj e
      refine EvB_run (N := 54) Try.func18 rfl rfl ?_
      intro z hP hO hro hN hQ
      repeat' first | simp (maxSteps := 2000000) (disch := first | omega | assumption | exact Kept.refl _) only [go_sem, *, Try.results18, withinS, headS, headV, heightS, heightV, hgtA, hgtE, nextV, nxtA, nxtE, nxtH, implies_true] | (first | apply xg1 | apply xc1 | apply xg2 | apply xc2 | apply xc3 | apply xc4 | apply xg3 | apply xg4) <;> intro _
      all_goals first | (intro i hi; simp (disch := omega) only [heap_ne]; done) | (refine ⟨?_, fun i hi => by simp (disch := omega) only [heap_ne]⟩; rfl)
    · rename_i p r lv
      obtain rfl := Option.some.inj hm
      obtain ⟨l, hl, e⟩ := look_bind_some e
      rw [look_pure] at e; obtain rfl := Option.some.inj e
      have hW := WfH.of_lt hlt
      have hrl := fun h' hk z f d ops r K m n => @EvV_look _ _ _ _ h' hl z f d ops r K m n hk
      obtain ⟨lb, ro, hv, tv, hp, hb, h27, h28, hH, hT, hHl, hTl, hSl, hPm, hVm, hP7⟩ := rdL_look hR hl
      cases hp
      have hbN := hlt _ _ hb
      clear hm
      by_cases hin : 1 ≤ r ∧ r ≤ l.H.length
      · obtain ⟨a, c, rfl, hA⟩ := hT.len
        obtain ⟨b, off, sp, L, ro', rfl, hb', hL⟩ := hA (r - 1).toNat (by omega)
        have hin2 := hin.1
        have hin3 := hin.2
        have hin4 : ¬ isHead l r := fun hh => absurd hh.1 (by omega)
        clear hl hA
        refine EvB_run (N := 54) Try.func18 rfl rfl fun z hP hO hro hN hQ => ?_
        repeat' first | simp (maxSteps := 2000000) (disch := first | omega | assumption | exact Kept.refl _) only [go_sem, *, Try.results18, withinS, headS, headV, heightS, heightV, hgtA, hgtE, nextV, nxtA, nxtE, nxtH, implies_true] | (first | apply xg1 | apply xc1 | apply xg2 | apply xc2 | apply xc3 | apply xc4 | apply xg3 | apply xg4) <;> intro _
      · clear hl
        refine EvB_run (N := 54) Try.func18 rfl rfl fun z hP hO hro hN hQ => ?_
        repeat' first | simp (maxSteps := 2000000) (disch := first | omega | assumption | exact Kept.refl _) only [go_sem, *, Try.results18, withinS, headS, headV, heightS, heightV, hgtA, hgtE, nextV, nxtA, nxtE, nxtH, implies_true] | (first | apply xg1 | apply xc1 | apply xg2 | apply xc2 | apply xc3 | apply xc4 | apply xg3 | apply xg4) <;> intro _
    · simp at hm
noncomputable def placesS : List Value → Option (AP Value)
  | [.pointer none] => some (.pure (.agg ⟨[.int .i64 0, .int .i64 0, .int .i64 0, .int .i64 0, .int .i64 0, .int .i64 0, .int .i64 0, .int .i64 0, .int .i64 0, .int .i64 0]⟩))
  | [.pointer (some p)] => some ((rdL (.pointer (some p))).bind fun l => .pure (.agg ⟨l.P.map (.int .i64)⟩))
  | _ => none
set_option maxRecDepth 100000 in
set_option maxHeartbeats 4000000 in
theorem placesF : SoundF Try.prog 27 placesS := by
  refine soundF_look (tab_sound .nil) orders ?_ ?_ ?_
  · intro args m hm
    unfold placesS at hm
    split at hm
    · obtain rfl := Option.some.inj hm; exact .pure _
    · obtain rfl := Option.some.inj hm; exact (rdL_reads _).bind fun l => .pure _
    · simp at hm
  · intro args m h v hm e
    unfold placesS at hm
    split at hm
    · obtain rfl := Option.some.inj hm; rw [look_pure] at e; obtain rfl := Option.some.inj e; exact .agg _ (by simp; exact .int _ _)
    · obtain rfl := Option.some.inj hm
      obtain ⟨l, hl, e⟩ := look_bind_some e
      rw [look_pure] at e; obtain rfl := Option.some.inj e
      exact .agg _ (by intro u hu; simp only [List.mem_map] at hu; obtain ⟨x, _, rfl⟩ := hu; exact .int _ _)
    · simp at hm
  · intro args m h N v hm hR hlt e
    unfold placesS at hm
    split at hm
    · obtain rfl := Option.some.inj hm; rw [look_pure] at e; obtain rfl := Option.some.inj e
      refine EvB_run (N := 10) Try.func27 rfl rfl ?_
      intro z hP hO hro hN hQ
      repeat' first | simp (maxSteps := 2000000) (disch := first | omega | assumption | exact Kept.refl _) only [go_sem, *, Try.results27, implies_true] | (first | apply xg1 | apply xc1 | apply xg2 | apply xc2 | apply xc3 | apply xc4 | apply xg3 | apply xg4) <;> intro _
      all_goals first | (intro i hi; simp (disch := omega) only [heap_ne]; done) | (refine ⟨?_, fun i hi => by simp (disch := omega) only [heap_ne]⟩; rfl)
    · rename_i p
      obtain rfl := Option.some.inj hm
      obtain ⟨l, hl, e⟩ := look_bind_some e
      rw [look_pure] at e; obtain rfl := Option.some.inj e
      have hW := WfH.of_lt hlt
      have hrl := fun h' hk z f d ops r K m n => @EvV_look _ _ _ _ h' hl z f d ops r K m n hk
      obtain ⟨lb, ro, hv, tv, hp, hb, h27, h28, hH, hT, hHl, hTl, hSl, hPm, hVm, hP7⟩ := rdL_look hR hl
      cases hp
      have hbN := hlt _ _ hb
      clear hm
      clear hl
      have hPl : l.P.length = 10 := by have := congrArg List.length hPm; simp at this; omega
      obtain ⟨p0, p1, p2, p3, p4, p5, p6, p7, p8, p9, hPe⟩ : ∃ p0 p1 p2 p3 p4 p5 p6 p7 p8 p9, l.P = [p0, p1, p2, p3, p4, p5, p6, p7, p8, p9] := by
        match hq : l.P, hPl with
        | [p0, p1, p2, p3, p4, p5, p6, p7, p8, p9], _ => exact ⟨p0, p1, p2, p3, p4, p5, p6, p7, p8, p9, rfl⟩
      rw [hPe] at hPm
      have hSl2 : Nat.ble 26 l.S.length = true := by rw [hSl]; rfl
      clear hPl
      refine EvB_run (N := 10) Try.func27 rfl rfl fun z hP hO hro hN hQ => ?_
      repeat' first | simp (maxSteps := 2000000) (disch := first | omega | assumption | exact Kept.refl _) only [go_sem, *, Try.results27, implies_true] | (first | apply xg1 | apply xc1 | apply xg2 | apply xc2 | apply xc3 | apply xc4 | apply xg3 | apply xg4) <;> intro _
      all_goals first | (intro i hi; simp (disch := omega) only [heap_ne]; done) | (refine ⟨?_, fun i hi => by simp (disch := omega) only [heap_ne]⟩; rfl)
    · simp at hm
end Go.Proofs.Ytapcgfakefmemaa
set_option linter.unusedVariables false
set_option linter.unusedSimpArgs false
namespace Go.Proofs.Ytapcgfakefmemaa
open Go.Am
theorem rdL_mk {h : PT ABlk} {lb : Nat} {S : List Value} {ro : Bool} {hv tv : Value} {H T P : List Int} {V : Int} (hb : h.get lb = some (.cells (PT.ofList .leaf 0 S) ro)) (h27 : S[27]? = some hv) (h28 : S[28]? = some tv) (h29 : S[29]? = some (.int .i64 V))
    (hH : IsInts .i64 h hv H) (hT : IsInts .i64 h tv T) (hP : decInts .i64 ((S.drop 16).take 10) = some P) (h1 : H.length < 100000) (h2 : T.length = H.length) (h3 : S.length = 30) : (rdL (.pointer (some ⟨lb, 0, none⟩))).look h = some ⟨S, H, T, P, V⟩ := by
  unfold rdL
  simp only [AP.row, look_get, hb, rowB_row, h27, h28]
  rw [look_bind, hH.look, Option.bind_some, look_bind, hT.look, Option.bind_some, hP, h29]
  have e1 : Nat.blt H.length 100000 = true := Nat.ble_eq_true_of_le h1
  simp only [e1, h2, h3, show ∀ n, Nat.beq n n = true from Nat.beq_refl, Bool.and_self, cond_true, look_pure]
def p7Of (sl en bu lo : Int) (H : List Int) : Int := 0 + sl * 1 + 1 * engW en sl bu + 1 + lo * 3 + lo * 1 + 6 + (H.length : Int) * 1
def placesOf (sl en bu lo V : Int) (H : List Int) : List Int :=
  [0, 0 + sl * 1, 0 + sl * 1 + 1 * engW en sl bu, 0 + sl * 1 + 1 * engW en sl bu + 1, 0 + sl * 1 + 1 * engW en sl bu + 1 + lo * 3, 0 + sl * 1 + 1 * engW en sl bu + 1 + lo * 3 + lo * 1, 0 + sl * 1 + 1 * engW en sl bu + 1 + lo * 3 + lo * 1 + 6,
    p7Of sl en bu lo H, p7Of sl en bu lo H + V * 7, adrEnd (p7Of sl en bu lo H + V * 7) H]
theorem hts_length6 {t0 t1 t2 t3 t4 t5 : Int} (h : (0 ≤ t0 ∧ 0 ≤ t1 ∧ 0 ≤ t2 ∧ 0 ≤ t3 ∧ 0 ≤ t4 ∧ 0 ≤ t5) ∧ t0 + t1 + t2 + t3 + t4 + t5 ≤ 1024) : (hts 1 [t0, t1, t2, t3, t4, t5]).length ≤ 1024 := by
  simp [hts]; omega
theorem p7_bound {th sl en bu kd dn t0 t1 t2 t3 t4 t5 lo tr ba : Int} {xs : List Int} (h : cfgOk th sl en bu kd dn t0 t1 t2 t3 t4 t5 lo tr ba xs = true) : 12 ≤ p7Of sl en bu lo (hts 1 [t0, t1, t2, t3, t4, t5]) ∧ p7Of sl en bu lo (hts 1 [t0, t1, t2, t3, t4, t5]) ≤ 2000 := by
  obtain ⟨c1, ⟨c2, c2'⟩, ⟨c3, c3'⟩, ⟨c4, c4'⟩, ⟨c5, c5'⟩, c6, c12, c13⟩ := cfgOk_facts h
  have := hts_length6 ⟨c6, c12⟩
  obtain ⟨d5, d6⟩ := engW_bound (en := en) c3 c3' c4 c4'
  unfold p7Of
  omega
structure NewL (th sl en bu kd dn t0 t1 t2 t3 t4 t5 lo tr ba : Int) (xs : List Int) (h : PT ABlk) (lb : Nat) (l : LayV) (gb : Nat) (cv : Value) : Prop where
  ok : cfgOk th sl en bu kd dn t0 t1 t2 t3 t4 t5 lo tr ba xs = true
  look : (rdL (.pointer (some ⟨lb, 0, none⟩))).look h = some l
  V : l.V = domCount kd dn xs
  H : l.H = hts 1 [t0, t1, t2, t3, t4, t5]
  P : l.P = placesOf sl en bu lo (domCount kd dn xs) (hts 1 [t0, t1, t2, t3, t4, t5])
  T : l.T = adr (p7Of sl en bu lo (hts 1 [t0, t1, t2, t3, t4, t5]) + domCount kd dn xs * 7) (hts 1 [t0, t1, t2, t3, t4, t5])
  cuts : IsInts .u64 h cv xs
  cells : ∃ rest, l.S = [Value.int .i64 th, .int .i64 sl, .int .u8 en, .int .i64 bu, .int .u8 kd, .int .i64 dn, cv, .int .i64 t0, .int .i64 t1, .int .i64 t2, .int .i64 t3, .int .i64 t4, .int .i64 t5, .int .i64 lo, .int .i64 tr, .int .i64 ba] ++ rest
theorem layNewL {O : Over} (o16 : O 57 = layCheckS) (o46 : O 61 = engineS) (o44 : O 59 = valuesS) (o45 : O 60 = placeS) (o43 : ∀ a, O 58 a = none) (th sl en bu kd dn t0 t1 t2 t3 t4 t5 lo tr ba : Int) (s : Value) (xs : List Int) (h : PT ABlk) (N : Nat) (hW : WfH h N) (hs : IsInts .u64 h s xs) (hl : xs.length < 1000000000000000) :
    EvB Try.prog O 28 [.agg ⟨[.int .i64 th, .int .i64 sl, .int .u8 en, .int .i64 bu, .int .u8 kd, .int .i64 dn, s, .int .i64 t0, .int .i64 t1, .int .i64 t2, .int .i64 t3, .int .i64 t4, .int .i64 t5, .int .i64 lo, .int .i64 tr, .int .i64 ba]⟩] h N
      fun v h' n' => (cfgOk th sl en bu kd dn t0 t1 t2 t3 t4 t5 lo tr ba xs = false ∧ v = .tuple ⟨[.pointer none, .int .i64 2]⟩ ∧ Kept h h') ∨
        ∃ lb l gb cv, v = .tuple ⟨[.pointer (some ⟨lb, 0, none⟩), .int .i64 0]⟩ ∧ Kept h h' ∧ N ≤ lb ∧ NewL th sl en bu kd dn t0 t1 t2 t3 t4 t5 lo tr ba xs h' lb l gb cv := by
  refine (layNew o16 o46 o44 o45 o43 th sl en bu kd dn t0 t1 t2 t3 t4 t5 lo tr ba s xs h N hW hs hl).mono ?_
  rintro v h' n' (⟨e1, e2, e3⟩ | ⟨e1, lb, cv, hv, tv, gb, rfl, hk, hN, hb, hg, hcv, hH, hT⟩)
  · exact .inl ⟨e1, e2, e3⟩
  · have hf := cfgOk_facts e1
    have hlen := hts_length6 ⟨hf.2.2.2.2.2.1, hf.2.2.2.2.2.2.1⟩
    refine .inr ⟨lb, _, gb, cv, rfl, hk, hN, e1, rdL_mk hb rfl rfl rfl hH hT (decInts_map (xs := placesOf sl en bu lo (domCount kd dn xs) (hts 1 [t0, t1, t2, t3, t4, t5]))) (by omega) (adr_length _ _) rfl, rfl, rfl, rfl, rfl, hcv, ⟨_, rfl⟩⟩
end Go.Proofs.Ytapcgfakefmemaa
