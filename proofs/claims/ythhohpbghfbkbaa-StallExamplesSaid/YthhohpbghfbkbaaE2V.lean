/-
  A part of the proof: contracts of inner functions.
-/
import Derived.Test.YthhohpbghfbkbaaAmU3
import Derived.Test.YthhohpbghfbkbaaE2C
/-
  The abstract machine, for proofs with variables: a function that writes one row, as an override.
-/
set_option linter.unusedSimpArgs false
set_option linter.unusedVariables false
namespace Go.Am

/-- Look at a row, and write it anew; or fail. -/
noncomputable def setP (b : Nat) (g : List Value → Option (List Value × Value)) : AP Value := AP.row b fun L ro => cond ro (.fail "") (match g L with
  | some (L', v) => .setRow b L' (.pure v)
  | none => .fail "")

theorem soundF_set {P : Program} {O : Over} (hO : SoundO P O) (hmix : P.follows .mixedOrders = true) {f : FuncId} {spec : List Value → Option (AP Value)}
    (H : ∀ args m, spec args = some m → ∃ (b : Nat) (g : List Value → Option (List Value × Value)), m = setP b g ∧ (∀ L L' v, g L = some (L', v) → Plain v ∧ ∀ u ∈ L', u ∈ L ∨ Plain u) ∧
      ∀ h N L L' v, (∀ i B, h.get i = some B → i < N) → h.get b = some (.cells (PT.ofList .leaf 0 L) false) → g L = some (L', v) →
        EvB P O f args h N fun v2 h2 n2 => v2 = v ∧ h2.get b = some (.cells (PT.ofList .leaf 0 L') false) ∧ ∀ i, i < N → i ≠ b → h2.get i = h.get i) : SoundF P f spec := by
  refine soundF hO hmix ?_
  intro args m hm h n N Old OldId v h1 n1 hr hold hid hn
  obtain ⟨b, g, rfl, hp, hB⟩ := H args m hm
  unfold setP at hr
  replace hr := run_row hr
  obtain ⟨L, ro, hb, hr⟩ := hr
  cases ro with
  | true => exact (run_fail hr).elim
  | false =>
    simp only [cond_false] at hr
    cases hg : g L with
    | none => rw [hg] at hr; exact (run_fail hr).elim
    | some q =>
      obtain ⟨L', v'⟩ := q
      rw [hg] at hr
      replace hr := run_set hr
      obtain ⟨hs, rfl⟩ := run_pure hr
      have e1 : h1 = _ := congrArg HS.heap hs
      have e2 : n1 = _ := congrArg HS.next hs
      simp only [S0] at e1 e2
      subst e1 e2
      clear hs hr
      obtain ⟨hpv, hpu⟩ := hp L L' v hg
      have hlt : ∀ i B, h.get i = some B → i < N := fun i B e => (hid i (hold.id i B e)).1
      refine (hB h N L L' v hlt hb hg).mono ?_
      rintro v2 h2 n2 ⟨rfl, q1, q2⟩
      refine ⟨fun i => i, fun i a c => by omega, fun i j a c => by omega, hpv.ren, fun i B e => ?_⟩
      rw [PT.get_set] at e
      split at e
      · rename_i hi; subst hi
        obtain rfl := Option.some.inj e
        refine .inr ⟨_, ?_, .cells _ _ _ (VRens.refl _ fun u hu => ?_)⟩
        · rw [sg_old (by omega)]; exact q1
        · rcases hpu u hu with q | q
          · obtain ⟨j, hj⟩ := List.mem_iff_getElem?.1 q
            exact .old _ (hold.cells i _ _ j u hb (by rw [PT.get_ofList_leaf]; exact hj))
          · exact q.ren
      · rename_i hi
        exact .inl ⟨e, by rw [q2 i (hlt i B e) hi]; exact e⟩
end Go.Am

set_option linter.unusedVariables false
set_option linter.unusedSimpArgs false
namespace Go.Proofs.Ythhohpbghfbkbaa
open Go.Am

/-- What an event does to the state of its thread: the new state, and whether it may come there. -/
def thG (f : Int → Int → Int → Int × Int × Bool) (off : Nat) (val : Int) (L : List Value) : Option (List Value × Value) := match (L[off]? : Option Value), (L[off + 1]? : Option Value) with
  | some (.int .u8 i), some (.int .u64 x) => some ((L.set off (.int .u8 (f i x val).1)).set (off + 1) (.int .u64 (f i x val).2.1), .bool (f i x val).2.2)
  | _, _ => none
noncomputable def thS (f : Int → Int → Int → Int × Int × Bool) : List Value → Option (AP Value)
  | [.pointer (some ⟨b, off, none⟩), .agg ⟨[.int .i64 st, .int .i64 t, .int .u8 kd, .int .u64 val]⟩] => some (setP b (thG f off val))
  | _ => none
def enterT (i x val : Int) : Int × Int × Bool := (1, val, decide (i = 0 ∧ val < 64))
def exitT (i x val : Int) : Int × Int × Bool := (0, x, decide (i = 1 ∧ x = val))
def waitT (i x val : Int) : Int × Int × Bool := (3, val, decide (i = 0 ∧ val ≠ 0))
def doneT (i x val : Int) : Int × Int × Bool := (0, x, decide (i = 3 ∧ x = val))
theorem set_same {L : List Value} {i : Nat} {v : Value} (h : L[i]? = some v) : L.set i v = L := by
  apply List.ext_getElem?
  intro j
  rw [List.getElem?_set]
  split
  · rename_i e; subst e
    rw [if_pos (List.getElem?_eq_some_iff.1 h).1]; exact h.symm
  · rfl
theorem thF {f : Int → Int → Int → Int × Int × Bool} {F : FuncId} (H : ∀ (b off : Nat) (st t kd val i x : Int) (L : List Value) (h : PT ABlk) (N : Nat), (∀ i B, h.get i = some B → i < N) → h.get b = some (.cells (PT.ofList .leaf 0 L) false) → L[off]? = some (.int .u8 i) → L[off + 1]? = some (.int .u64 x) →
    EvB Try.prog (tabO []) F [.pointer (some ⟨b, off, none⟩), .agg ⟨[.int .i64 st, .int .i64 t, .int .u8 kd, .int .u64 val]⟩] h N fun v2 h2 n2 => v2 = .bool (f i x val).2.2 ∧ h2.get b = some (.cells (PT.ofList .leaf 0 ((L.set off (.int .u8 (f i x val).1)).set (off + 1) (.int .u64 (f i x val).2.1))) false) ∧ ∀ i, i < N → i ≠ b → h2.get i = h.get i) : SoundF Try.prog F (thS f) := by
  refine soundF_set (tab_sound .nil) orders ?_
  intro args m hm
  unfold thS at hm
  split at hm
  · rename_i b off st t kd val
    obtain rfl := Option.some.inj hm
    refine ⟨b, _, rfl, fun L L' v hg => ?_, fun h N L L' v hlt hb hg => ?_⟩
    · unfold thG at hg
      split at hg
      · obtain ⟨rfl, rfl⟩ := Prod.mk.inj (Option.some.inj hg)
        refine ⟨.bool _, fun u hu => ?_⟩
        rcases List.mem_or_eq_of_mem_set hu with q | q
        · rcases List.mem_or_eq_of_mem_set q with q | q
          · exact .inl q
          · subst q; exact .inr (.int _ _)
        · subst q; exact .inr (.int _ _)
      · simp at hg
    · unfold thG at hg
      split at hg
      · rename_i i x h1 h2
        obtain ⟨rfl, rfl⟩ := Prod.mk.inj (Option.some.inj hg)
        exact H b off st t kd val i x L h N hlt hb h1 h2
      · simp at hg
  · simp at hm
set_option maxRecDepth 100000 in
set_option maxHeartbeats 1000000 in
theorem enterF : SoundF Try.prog 78 (thS enterT) := by
  refine thF ?_
  intro b off st t kd val i x L h N hlt hb h1 h2
  have hbN := hlt _ _ hb
  have ho1 := (List.getElem?_eq_some_iff.1 h1).1
  have ho2 := (List.getElem?_eq_some_iff.1 h2).1
  unfold enterT
  by_cases c1 : i = 0
  · by_cases c2 : val < 64
    · refine EvB_run (N := 25) Try.func78 rfl rfl fun z hP hO hro hN hQ => ?_
      repeat' first | simp (config := { maxSteps := 2000000 }) (disch := omega) only [go_sem, *, Try.results78, List.length_set] | (first | apply EvG_ndec | apply EvC_ndec | apply EvG_dec | apply EvC_dec | apply EvC_nbool | apply EvC_bool | apply EvG_nbool | apply EvG_bool) <;> intro _ | (first | apply EvH_ndec | apply EvH_dec | apply EvH_nbool | apply EvH_bool) <;> intro _ | refine EvK_draw (id := 2) (L := [(0, 1), (0, 2), (1, 2), (0, 3), (1, 3), (1, 4), (2, 4), (3, 4), (1, 5), (2, 5), (3, 5), (1, 6), (2, 6), (3, 6)]) (by kernel_rfl) (by kernel_rfl) ?_
      exact fun i h1 h2 => by simp (disch := omega) only [heap_ne]
    · refine EvB_run (N := 25) Try.func78 rfl rfl fun z hP hO hro hN hQ => ?_
      repeat' first | simp (config := { maxSteps := 2000000 }) (disch := omega) only [go_sem, *, Try.results78, List.length_set] | (first | apply EvG_ndec | apply EvC_ndec | apply EvG_dec | apply EvC_dec | apply EvC_nbool | apply EvC_bool | apply EvG_nbool | apply EvG_bool) <;> intro _ | (first | apply EvH_ndec | apply EvH_dec | apply EvH_nbool | apply EvH_bool) <;> intro _ | refine EvK_draw (id := 2) (L := [(0, 1), (0, 2), (1, 2), (0, 3), (1, 3), (1, 4), (2, 4), (3, 4), (1, 5), (2, 5), (3, 5), (1, 6), (2, 6), (3, 6)]) (by kernel_rfl) (by kernel_rfl) ?_
      exact fun i h1 h2 => by simp (disch := omega) only [heap_ne]
  · refine EvB_run (N := 25) Try.func78 rfl rfl fun z hP hO hro hN hQ => ?_
    repeat' first | simp (config := { maxSteps := 2000000 }) (disch := omega) only [go_sem, *, Try.results78, List.length_set] | (first | apply EvG_ndec | apply EvC_ndec | apply EvG_dec | apply EvC_dec | apply EvC_nbool | apply EvC_bool | apply EvG_nbool | apply EvG_bool) <;> intro _ | (first | apply EvH_ndec | apply EvH_dec | apply EvH_nbool | apply EvH_bool) <;> intro _ | refine EvK_draw (id := 2) (L := [(0, 1), (0, 2), (1, 2), (0, 3), (1, 3), (1, 4), (2, 4), (3, 4), (1, 5), (2, 5), (3, 5), (1, 6), (2, 6), (3, 6)]) (by kernel_rfl) (by kernel_rfl) ?_
    exact fun i h1 h2 => by simp (disch := omega) only [heap_ne]
set_option maxRecDepth 100000 in
set_option maxHeartbeats 1000000 in
theorem exitF : SoundF Try.prog 79 (thS exitT) := by
  refine thF ?_
  intro b off st t kd val i x L h N hlt hb h1 h2
  have hbN := hlt _ _ hb
  have ho1 := (List.getElem?_eq_some_iff.1 h1).1
  have ho2 := (List.getElem?_eq_some_iff.1 h2).1
  unfold exitT
  have hset : (L.set off (.int .u8 0)).set (off + 1) (.int .u64 x) = L.set off (.int .u8 0) := set_same (by rw [List.getElem?_set_ne (by omega)]; exact h2)
  by_cases c1 : i = 1
  · by_cases c2 : x = val
    · subst c2
      refine EvB_run (N := 24) Try.func79 rfl rfl fun z hP hO hro hN hQ => ?_
      repeat' first | simp (config := { maxSteps := 2000000 }) (disch := omega) only [go_sem, *, Try.results79, List.length_set] | (first | apply EvG_ndec | apply EvC_ndec | apply EvG_dec | apply EvC_dec | apply EvC_nbool | apply EvC_bool | apply EvG_nbool | apply EvG_bool) <;> intro _ | (first | apply EvH_ndec | apply EvH_dec | apply EvH_nbool | apply EvH_bool) <;> intro _ | refine EvK_draw (id := 1) (L := [(6, 10), (7, 10), (8, 10), (9, 10), (6, 11), (7, 11), (8, 11), (9, 11)]) (by kernel_rfl) (by kernel_rfl) ?_
      exact fun i h1 h2 => by simp (disch := omega) only [heap_ne]
    · refine EvB_run (N := 24) Try.func79 rfl rfl fun z hP hO hro hN hQ => ?_
      repeat' first | simp (config := { maxSteps := 2000000 }) (disch := omega) only [go_sem, *, Try.results79, List.length_set] | (first | apply EvG_ndec | apply EvC_ndec | apply EvG_dec | apply EvC_dec | apply EvC_nbool | apply EvC_bool | apply EvG_nbool | apply EvG_bool) <;> intro _ | (first | apply EvH_ndec | apply EvH_dec | apply EvH_nbool | apply EvH_bool) <;> intro _ | refine EvK_draw (id := 1) (L := [(6, 10), (7, 10), (8, 10), (9, 10), (6, 11), (7, 11), (8, 11), (9, 11)]) (by kernel_rfl) (by kernel_rfl) ?_
      exact fun i h1 h2 => by simp (disch := omega) only [heap_ne]
  · refine EvB_run (N := 24) Try.func79 rfl rfl fun z hP hO hro hN hQ => ?_
    repeat' first | simp (config := { maxSteps := 2000000 }) (disch := omega) only [go_sem, *, Try.results79, List.length_set] | (first | apply EvG_ndec | apply EvC_ndec | apply EvG_dec | apply EvC_dec | apply EvC_nbool | apply EvC_bool | apply EvG_nbool | apply EvG_bool) <;> intro _ | (first | apply EvH_ndec | apply EvH_dec | apply EvH_nbool | apply EvH_bool) <;> intro _ | refine EvK_draw (id := 1) (L := [(6, 10), (7, 10), (8, 10), (9, 10), (6, 11), (7, 11), (8, 11), (9, 11)]) (by kernel_rfl) (by kernel_rfl) ?_
    exact fun i h1 h2 => by simp (disch := omega) only [heap_ne]
set_option maxRecDepth 100000 in
set_option maxHeartbeats 1000000 in
theorem waitF : SoundF Try.prog 80 (thS waitT) := by
  refine thF ?_
  intro b off st t kd val i x L h N hlt hb h1 h2
  have hbN := hlt _ _ hb
  have ho1 := (List.getElem?_eq_some_iff.1 h1).1
  have ho2 := (List.getElem?_eq_some_iff.1 h2).1
  unfold waitT
  by_cases c1 : i = 0
  · by_cases c2 : val = 0
    · refine EvB_run (N := 25) Try.func80 rfl rfl fun z hP hO hro hN hQ => ?_
      repeat' first | simp (config := { maxSteps := 2000000 }) (disch := omega) only [go_sem, *, Try.results80, List.length_set] | (first | apply EvG_ndec | apply EvC_ndec | apply EvG_dec | apply EvC_dec | apply EvC_nbool | apply EvC_bool | apply EvG_nbool | apply EvG_bool) <;> intro _ | (first | apply EvH_ndec | apply EvH_dec | apply EvH_nbool | apply EvH_bool) <;> intro _ | refine EvK_draw (id := 2) (L := [(0, 1), (0, 2), (1, 2), (0, 3), (1, 3), (1, 4), (2, 4), (3, 4), (1, 5), (2, 5), (3, 5), (1, 6), (2, 6), (3, 6)]) (by kernel_rfl) (by kernel_rfl) ?_
      exact fun i h1 h2 => by simp (disch := omega) only [heap_ne]
    · refine EvB_run (N := 25) Try.func80 rfl rfl fun z hP hO hro hN hQ => ?_
      repeat' first | simp (config := { maxSteps := 2000000 }) (disch := omega) only [go_sem, *, Try.results80, List.length_set] | (first | apply EvG_ndec | apply EvC_ndec | apply EvG_dec | apply EvC_dec | apply EvC_nbool | apply EvC_bool | apply EvG_nbool | apply EvG_bool) <;> intro _ | (first | apply EvH_ndec | apply EvH_dec | apply EvH_nbool | apply EvH_bool) <;> intro _ | refine EvK_draw (id := 2) (L := [(0, 1), (0, 2), (1, 2), (0, 3), (1, 3), (1, 4), (2, 4), (3, 4), (1, 5), (2, 5), (3, 5), (1, 6), (2, 6), (3, 6)]) (by kernel_rfl) (by kernel_rfl) ?_
      exact fun i h1 h2 => by simp (disch := omega) only [heap_ne]
  · refine EvB_run (N := 25) Try.func80 rfl rfl fun z hP hO hro hN hQ => ?_
    repeat' first | simp (config := { maxSteps := 2000000 }) (disch := omega) only [go_sem, *, Try.results80, List.length_set] | (first | apply EvG_ndec | apply EvC_ndec | apply EvG_dec | apply EvC_dec | apply EvC_nbool | apply EvC_bool | apply EvG_nbool | apply EvG_bool) <;> intro _ | (first | apply EvH_ndec | apply EvH_dec | apply EvH_nbool | apply EvH_bool) <;> intro _ | refine EvK_draw (id := 2) (L := [(0, 1), (0, 2), (1, 2), (0, 3), (1, 3), (1, 4), (2, 4), (3, 4), (1, 5), (2, 5), (3, 5), (1, 6), (2, 6), (3, 6)]) (by kernel_rfl) (by kernel_rfl) ?_
    exact fun i h1 h2 => by simp (disch := omega) only [heap_ne]
set_option maxRecDepth 100000 in
set_option maxHeartbeats 1000000 in
theorem doneF : SoundF Try.prog 81 (thS doneT) := by
  refine thF ?_
  intro b off st t kd val i x L h N hlt hb h1 h2
  have hbN := hlt _ _ hb
  have ho1 := (List.getElem?_eq_some_iff.1 h1).1
  have ho2 := (List.getElem?_eq_some_iff.1 h2).1
  unfold doneT
  have hset : (L.set off (.int .u8 0)).set (off + 1) (.int .u64 x) = L.set off (.int .u8 0) := set_same (by rw [List.getElem?_set_ne (by omega)]; exact h2)
  by_cases c1 : i = 3
  · by_cases c2 : x = val
    · subst c2
      refine EvB_run (N := 24) Try.func81 rfl rfl fun z hP hO hro hN hQ => ?_
      repeat' first | simp (config := { maxSteps := 2000000 }) (disch := omega) only [go_sem, *, Try.results81, List.length_set] | (first | apply EvG_ndec | apply EvC_ndec | apply EvG_dec | apply EvC_dec | apply EvC_nbool | apply EvC_bool | apply EvG_nbool | apply EvG_bool) <;> intro _ | (first | apply EvH_ndec | apply EvH_dec | apply EvH_nbool | apply EvH_bool) <;> intro _ | refine EvK_draw (id := 1) (L := [(6, 10), (7, 10), (8, 10), (9, 10), (6, 11), (7, 11), (8, 11), (9, 11)]) (by kernel_rfl) (by kernel_rfl) ?_
      exact fun i h1 h2 => by simp (disch := omega) only [heap_ne]
    · refine EvB_run (N := 24) Try.func81 rfl rfl fun z hP hO hro hN hQ => ?_
      repeat' first | simp (config := { maxSteps := 2000000 }) (disch := omega) only [go_sem, *, Try.results81, List.length_set] | (first | apply EvG_ndec | apply EvC_ndec | apply EvG_dec | apply EvC_dec | apply EvC_nbool | apply EvC_bool | apply EvG_nbool | apply EvG_bool) <;> intro _ | (first | apply EvH_ndec | apply EvH_dec | apply EvH_nbool | apply EvH_bool) <;> intro _ | refine EvK_draw (id := 1) (L := [(6, 10), (7, 10), (8, 10), (9, 10), (6, 11), (7, 11), (8, 11), (9, 11)]) (by kernel_rfl) (by kernel_rfl) ?_
      exact fun i h1 h2 => by simp (disch := omega) only [heap_ne]
  · refine EvB_run (N := 24) Try.func81 rfl rfl fun z hP hO hro hN hQ => ?_
    repeat' first | simp (config := { maxSteps := 2000000 }) (disch := omega) only [go_sem, *, Try.results81, List.length_set] | (first | apply EvG_ndec | apply EvC_ndec | apply EvG_dec | apply EvC_dec | apply EvC_nbool | apply EvC_bool | apply EvG_nbool | apply EvG_bool) <;> intro _ | (first | apply EvH_ndec | apply EvH_dec | apply EvH_nbool | apply EvH_bool) <;> intro _ | refine EvK_draw (id := 1) (L := [(6, 10), (7, 10), (8, 10), (9, 10), (6, 11), (7, 11), (8, 11), (9, 11)]) (by kernel_rfl) (by kernel_rfl) ?_
    exact fun i h1 h2 => by simp (disch := omega) only [heap_ne]
end Go.Proofs.Ythhohpbghfbkbaa

set_option linter.unusedVariables false
set_option linter.unusedSimpArgs false
namespace Go.Proofs.Ythhohpbghfbkbaa
open Go.Am

@[go_sem] theorem aOp_insert {P : Program} {ρ : Operand → Value} {d : Option Tmp} {ty : TypeId} {pos : String} {af : Array Edge} {g : Option (Nat × Bool)} {t : TypeId} {x i v : Operand} : aOp P ρ ⟨d, .insert t x i v, ty, pos, af, g⟩ = muQ P t (ρ x) (ρ i) (ρ v) := rfl
@[go_sem] theorem operands_insert' {t : TypeId} {a b c : Operand} : (Op.insert t a b c).operands = #[a, b, c] := rfl
theorem und105 : Try.prog.underlying 122 = some (.map 5 125) := by kernel_rfl
theorem und5 : Try.prog.underlying 5 = some (.int .u8) := by kernel_rfl
theorem keyOk5 (x : Int) : keyOk Try.prog 5 (.int .u8) (.int .u8 x) = true := rfl
def fn (n : FuncId) : Value := .func (.func n) ⟨[]⟩ ⟨[]⟩
def rulesE : List (Value × Value × Nat) := [(.int .u8 1, fn 78, 0), (.int .u8 2, fn 79, 1), (.int .u8 3, fn 80, 2), (.int .u8 4, fn 81, 3)]
theorem mu105 {r : Nat} {x : Int} {v : Value} : muQ Try.prog 122 (.map (some r)) (.int .u8 x) v = .get r (muB Try.prog r (.int .u8) (.int .u8 x) v) := muQ_map und105 und5 (keyOk5 x)
theorem mur1 {r : Nat} {v : Value} : muB Try.prog r (.int .u8) (.int .u8 1) v (.map [] 0) = .set r (.map [(.int .u8 1, v, 0)] 1) (.pure .skip) := rfl
theorem mur2 {r : Nat} {a v : Value} : muB Try.prog r (.int .u8) (.int .u8 2) v (.map [(.int .u8 1, a, 0)] 1) = .set r (.map [(.int .u8 1, a, 0), (.int .u8 2, v, 1)] 2) (.pure .skip) := rfl
theorem mur3 {r : Nat} {a b v : Value} : muB Try.prog r (.int .u8) (.int .u8 3) v (.map [(.int .u8 1, a, 0), (.int .u8 2, b, 1)] 2) = .set r (.map [(.int .u8 1, a, 0), (.int .u8 2, b, 1), (.int .u8 3, v, 2)] 3) (.pure .skip) := rfl
theorem mur4 {r : Nat} {a b c v : Value} : muB Try.prog r (.int .u8) (.int .u8 4) v (.map [(.int .u8 1, a, 0), (.int .u8 2, b, 1), (.int .u8 3, c, 2)] 3) = .set r (.map [(.int .u8 1, a, 0), (.int .u8 2, b, 1), (.int .u8 3, c, 2), (.int .u8 4, v, 3)] 4) (.pure .skip) := rfl
theorem rulesB {O : Over} (h : PT ABlk) (n : Nat) (hW : WfH h n) : EvB Try.prog O 71 [] h n fun v h' n' => v = .map (some n) ∧ h'.get n = some (.map rulesE 4) ∧ n' = n + 1 ∧ ∀ i, i ≠ n → h'.get i = h.get i := by
  refine EvB_run (N := 3) Try.func71 rfl rfl fun z hP hO hro hN hQ => ?_
  repeat' first | simp (config := { maxSteps := 2000000 }) (disch := omega) only [go_sem, *, Try.results71, mu105, mur1, mur2, mur3, mur4] | (first | apply EvG_ndec | apply EvC_ndec | apply EvG_dec | apply EvC_dec | apply EvC_nbool | apply EvC_bool | apply EvG_nbool | apply EvG_bool) <;> intro _
  exact ⟨rfl, fun i hi => by simp (disch := omega) only [heap_ne]⟩
/-- The look-up of a kind. -/
theorem lk105 {r : Nat} {x : Int} : lkQ Try.prog 122 (.map (some r)) (.int .u8 x) true = .get r (lkB Try.prog (.int .u8) 125 (.int .u8 x) true) := lkQ_map und105 und5 (keyOk5 x)
theorem lkr1 : lkB Try.prog (.int .u8) 125 (.int .u8 1) true (.map rulesE 4) = .pure (.value (.tuple ⟨[fn 78, .bool true]⟩)) := rfl
theorem lkr2 : lkB Try.prog (.int .u8) 125 (.int .u8 2) true (.map rulesE 4) = .pure (.value (.tuple ⟨[fn 79, .bool true]⟩)) := rfl
theorem lkr3 : lkB Try.prog (.int .u8) 125 (.int .u8 3) true (.map rulesE 4) = .pure (.value (.tuple ⟨[fn 80, .bool true]⟩)) := rfl
theorem lkr4 : lkB Try.prog (.int .u8) 125 (.int .u8 4) true (.map rulesE 4) = .pure (.value (.tuple ⟨[fn 81, .bool true]⟩)) := rfl
theorem zero108 : zeroOf Try.prog 125 = some .nilFunc := by kernel_rfl
theorem lkr0 {x : Int} (h1 : x ≠ 1) (h2 : x ≠ 2) (h3 : x ≠ 3) (h4 : x ≠ 4) : lkB Try.prog (.int .u8) 125 (.int .u8 x) true (.map rulesE 4) = .pure (.value (.tuple ⟨[.nilFunc, .bool false]⟩)) := by
  rw [lkB_map]
  have e : findKeyA Try.prog (.int .u8) (.int .u8 x) rulesE 0 = some none := by
    show findPair (.int .u8) (.int .u8 x) rulesE 0 = some none
    have e1 : (x == 1) = false := by simpa using h1
    have e2 : (x == 2) = false := by simpa using h2
    have e3 : (x == 3) = false := by simpa using h3
    have e4 : (x == 4) = false := by simpa using h4
    have f1 : (1 == x) = false := by simpa using fun q : (1:Int) = x => h1 q.symm
    have f2 : (2 == x) = false := by simpa using fun q : (2:Int) = x => h2 q.symm
    have f3 : (3 == x) = false := by simpa using fun q : (3:Int) = x => h3 q.symm
    have f4 : (4 == x) = false := by simpa using fun q : (4:Int) = x => h4 q.symm
    simp only [rulesE, findPair, Instr.sameNow, e1, e2, e3, e4, f1, f2, f3, f4, beq_self_eq_true, if_true]
    try rfl
  rw [e]
  unfold lkR
  simp only [zero108, cond_true]
end Go.Proofs.Ythhohpbghfbkbaa

set_option linter.unusedVariables false
set_option linter.unusedSimpArgs false
namespace Go.Proofs.Ythhohpbghfbkbaa
open Go.Am

/-- An event: its step, thread, kind and value. -/
abbrev Ev := Int × Int × Int × Int
def evC (x : Ev) : List Value := [.int .i64 x.1, .int .i64 x.2.1, .int .u8 x.2.2.1, .int .u64 x.2.2.2]
def evCs (E : List Ev) : List Value := E.flatMap evC
theorem evCs_length : ∀ E : List Ev, (evCs E).length = E.length * 4
  | [] => rfl
  | x :: W => by
    have := evCs_length W
    unfold evCs at *
    rw [List.flatMap_cons, List.length_append, this]
    simp only [evC, List.length_cons, List.length_nil]; omega
theorem evCs_drop : ∀ (W : List Ev) (i : Nat), (evCs W).drop (i * 4) = evCs (W.drop i)
  | W, 0 => by simp
  | [], i + 1 => by simp [evCs]
  | y :: ys, i + 1 => by
    have : (i + 1) * 4 = i * 4 + 4 := by omega
    rw [this]
    simp only [List.drop_succ_cons]
    rw [← evCs_drop ys i]
    simp [evCs, evC]
theorem evCs_row {E : List Ev} {i : Nat} (hi : i < E.length) : ((evCs E).drop (i * 4)).take 4 = evC E[i] := by
  rw [evCs_drop, List.drop_eq_getElem_cons hi]; rfl
/-- The events of a slice. -/
def IsEvs (h : PT ABlk) (s : Value) (E : List Ev) : Prop := (s = .slice none 0 0 ∧ E = []) ∨ ∃ b cap, s = .slice (some ⟨b, 0, none⟩) E.length cap ∧ h.get b = some (.cells (PT.ofList .leaf 0 (evCs E)) false)
theorem IsEvs.keep {h h' : PT ABlk} {s : Value} {E : List Ev} (H : IsEvs h s E) (k : Kept h h') : IsEvs h' s E := by
  rcases H with H | ⟨b, cap, e, q⟩
  · exact .inl H
  · exact .inr ⟨b, cap, e, k _ _ q⟩
theorem IsEvs.len {h : PT ABlk} {s : Value} {E : List Ev} (H : IsEvs h s E) : ∃ a c, s = .slice a E.length c ∧ ∀ i, i < E.length → ∃ b, a = some ⟨b, 0, none⟩ ∧ h.get b = some (.cells (PT.ofList .leaf 0 (evCs E)) false) := by
  rcases H with ⟨rfl, rfl⟩ | ⟨b, cap, rfl, q⟩
  · exact ⟨_, _, rfl, fun i hi => by simp at hi⟩
  · exact ⟨_, _, rfl, fun i _ => ⟨b, rfl, q⟩⟩

/-- The states of the threads. -/
abbrev TS := Int → Int × Int
def T0 : TS := fun _ => (0, 0)
def updT (T : TS) (t : Int) (p : Int × Int) : TS := fun u => if u = t then p else T u
def rl (kd i x val : Int) : Int × Int × Bool := if kd = 1 then enterT i x val else if kd = 2 then exitT i x val else if kd = 3 then waitT i x val else doneT i x val
def fldOk (x : Ev) : Bool := decide (0 ≤ x.1 ∧ 0 ≤ x.2.1 ∧ x.2.1 < 64 ∧ 1 ≤ x.2.2.1 ∧ x.2.2.1 ≤ 4)
def ordOk : Option Ev → Ev → Bool
  | none, _ => true
  | some p, x => decide (p.1 < x.1 ∨ (x.1 = p.1 ∧ p.2.2.1 = 3 ∧ x.2.2.1 = 4 ∧ x.2.1 = p.2.1))
def nextT (T : TS) (x : Ev) : TS := updT T x.2.1 ((rl x.2.2.1 (T x.2.1).1 (T x.2.1).2 x.2.2.2).1, (rl x.2.2.1 (T x.2.1).1 (T x.2.1).2 x.2.2.2).2.1)
def runs : Option Ev → TS → List Ev → Bool
  | _, _, [] => true
  | p, T, x :: E => fldOk x && (ordOk p x && ((rl x.2.2.1 (T x.2.1).1 (T x.2.1).2 x.2.2.2).2.2 && runs (some x) (nextT T x) E))
/-- The events are in order. -/
def chk (E : List Ev) : Bool := runs none T0 E
def prev (E : List Ev) : Nat → Option Ev
  | 0 => none
  | i + 1 => E[i]?
theorem prev_succ {E : List Ev} {i : Nat} (hi : i < E.length) : prev E (i + 1) = some E[i] := by
  simp [prev, hi]
theorem runs_at {E : List Ev} {i : Nat} (hi : i < E.length) (T : TS) : runs (prev E i) T (E.drop i) = (fldOk E[i] && (ordOk (prev E i) E[i] && ((rl E[i].2.2.1 (T E[i].2.1).1 (T E[i].2.1).2 E[i].2.2.2).2.2 && runs (prev E (i + 1)) (nextT T E[i]) (E.drop (i + 1))))) := by
  rw [List.drop_eq_getElem_cons hi, runs, prev_succ hi]

/-- The reference's: what a thread was last. -/
def goodE (kd i x val : Int) : Bool := if kd = 1 then decide (i ≠ 1 ∧ i ≠ 3 ∧ val < 64) else if kd = 2 then decide (i = 1 ∧ val = x) else if kd = 3 then decide (i ≠ 1 ∧ i ≠ 3 ∧ val ≠ 0) else decide (i = 3 ∧ val = x)
def lastT (E : List Ev) : TS := E.foldl (fun T x => updT T x.2.1 (x.2.2.1, x.2.2.2)) T0
theorem lastT_snoc (E : List Ev) (x : Ev) : lastT (E ++ [x]) = updT (lastT E) x.2.1 (x.2.2.1, x.2.2.2) := by
  unfold lastT
  rw [List.foldl_append]; rfl
def gd (E : List Ev) (i : Nat) : Bool := match E[i]? with
  | some x => fldOk x && (ordOk (prev E i) x && goodE x.2.2.1 (lastT (E.take i) x.2.1).1 (lastT (E.take i) x.2.1).2 x.2.2.2)
  | none => true
def runsR : Option Ev → TS → List Ev → Bool
  | _, _, [] => true
  | p, T, x :: E => (fldOk x && (ordOk p x && goodE x.2.2.1 (T x.2.1).1 (T x.2.1).2 x.2.2.2)) && runsR (some x) (updT T x.2.1 (x.2.2.1, x.2.2.2)) E
def chkR (E : List Ev) : Bool := runsR none T0 E
theorem runsR_at {E : List Ev} {i : Nat} (hi : i < E.length) : runsR (prev E i) (lastT (E.take i)) (E.drop i) = (gd E i && runsR (prev E (i + 1)) (lastT (E.take (i + 1))) (E.drop (i + 1))) := by
  rw [List.drop_eq_getElem_cons hi, runsR, prev_succ hi, List.take_succ_eq_append_getElem hi, lastT_snoc]
  unfold gd
  rw [List.getElem?_eq_getElem hi]
/-- The state of a thread from what it was last. -/
def simT (T L : TS) : Prop := ∀ t, ((L t).1 = 1 ∨ (L t).1 = 3) ∧ T t = L t ∨ (¬ ((L t).1 = 1 ∨ (L t).1 = 3)) ∧ (T t).1 = 0
theorem sim_runs : ∀ (E : List Ev) (p : Option Ev) (T L : TS), simT T L → runs p T E = runsR p L E
  | [], _, _, _, _ => rfl
  | x :: E, p, T, L, h => by
    obtain ⟨st, th, kd, val⟩ := x
    rw [runs, runsR]
    simp only
    cases hf : fldOk (st, th, kd, val) with
    | false => rfl
    | true =>
      simp only [Bool.true_and]
      cases ordOk p (st, th, kd, val) with
      | false => rfl
      | true =>
        simp only [Bool.true_and]
        have hk : 1 ≤ kd ∧ kd ≤ 4 := by
          unfold fldOk at hf
          have := of_decide_eq_true hf
          exact ⟨this.2.2.2.1, this.2.2.2.2⟩
        have hT := h th
        have e : (rl kd (T th).1 (T th).2 val).2.2 = goodE kd (L th).1 (L th).2 val := by
          unfold rl goodE enterT exitT waitT doneT
          rcases hT with ⟨a, b⟩ | ⟨a, b⟩
          · rw [b]
            (repeat' split) <;> simp only <;> refine decide_eq_decide.2 ?_ <;> omega
          · rw [b]
            have a1 : (L th).1 ≠ 1 := fun q => a (.inl q)
            have a3 : (L th).1 ≠ 3 := fun q => a (.inr q)
            (repeat' split) <;> simp [a1, a3]
        rw [e]
        cases hg : goodE kd (L th).1 (L th).2 val with
        | false => rfl
        | true =>
          simp only [Bool.true_and]
          refine sim_runs E _ _ _ fun t => ?_
          unfold nextT updT
          by_cases ht : t = th
          · subst ht
            simp only [if_pos rfl, if_true]
            unfold rl enterT exitT waitT doneT
            have hcs : kd = 1 ∨ kd = 2 ∨ kd = 3 ∨ kd = 4 := by omega
            rcases hcs with rfl | rfl | rfl | rfl <;> simp
          · simp only [if_neg ht]
            exact h t
theorem chk_eq (E : List Ev) : chk E = chkR E := sim_runs E none T0 T0 fun t => .inr ⟨by simp [T0], rfl⟩

/-- A section or a wait: its thread, its value, where it begins and where it ends. -/
abbrev Sec := Int × Int × Int × Int
def secC (x : Sec) : List Value := [.int .i64 x.1, .int .u64 x.2.1, .int .i64 x.2.2.1, .int .i64 x.2.2.2]
def secCs (S : List Sec) : List Value := S.flatMap secC
theorem secCs_length : ∀ E : List Sec, (secCs E).length = E.length * 4
  | [] => rfl
  | x :: W => by
    have := secCs_length W
    unfold secCs at *
    rw [List.flatMap_cons, List.length_append, this]
    simp only [secC, List.length_cons, List.length_nil]; omega
theorem secCs_drop : ∀ (W : List Sec) (i : Nat), (secCs W).drop (i * 4) = secCs (W.drop i)
  | W, 0 => by simp
  | [], i + 1 => by simp [secCs]
  | y :: ys, i + 1 => by
    have : (i + 1) * 4 = i * 4 + 4 := by omega
    rw [this]
    simp only [List.drop_succ_cons]
    rw [← secCs_drop ys i]
    simp [secCs, secC]
theorem secCs_row {E : List Sec} {i : Nat} (hi : i < E.length) : ((secCs E).drop (i * 4)).take 4 = secC E[i] := by
  rw [secCs_drop, List.drop_eq_getElem_cons hi]; rfl
theorem secCs_snoc (S : List Sec) (x : Sec) : secCs (S ++ [x]) = secCs S ++ secC x := by
  simp [secCs]
def IsSecs (h : PT ABlk) (s : Value) (E : List Sec) : Prop := (s = .slice none 0 0 ∧ E = []) ∨ ∃ b, s = .slice (some ⟨b, 0, none⟩) E.length (capInf + 4) ∧ h.get b = some (.cells (PT.ofList .leaf 0 (secCs E)) false)
theorem IsSecs.keep {h h' : PT ABlk} {s : Value} {E : List Sec} (H : IsSecs h s E) (k : Kept h h') : IsSecs h' s E := by
  rcases H with H | ⟨b, e, q⟩
  · exact .inl H
  · exact .inr ⟨b, e, k _ _ q⟩
theorem IsSecs.len {h : PT ABlk} {s : Value} {E : List Sec} (H : IsSecs h s E) : ∃ a c, s = .slice a E.length c ∧ ∀ i, i < E.length → ∃ b, a = some ⟨b, 0, none⟩ ∧ h.get b = some (.cells (PT.ofList .leaf 0 (secCs E)) false) := by
  rcases H with ⟨rfl, rfl⟩ | ⟨b, rfl, q⟩
  · exact ⟨_, _, rfl, fun i hi => by simp at hi⟩
  · exact ⟨_, _, rfl, fun i _ => ⟨b, rfl, q⟩⟩
/-- The step of the next event of a thread. -/
def nxt (th : Int) : List Ev → Int
  | [] => -1
  | x :: E => if x.2.1 = th then x.1 else nxt th E
/-- What begins with a kind. -/
def refS (bg : Int) : List Ev → List Sec
  | [] => []
  | x :: E => if x.2.2.1 = bg then (x.2.1, x.2.2.2, x.1, nxt x.2.1 E) :: refS bg E else refS bg E
theorem refS_length (bg : Int) : ∀ E, (refS bg E).length ≤ E.length
  | [] => Nat.le_refl _
  | x :: E => by
    have := refS_length bg E
    rw [refS]
    split <;> simp only [List.length_cons] <;> omega
def clo (th st : Int) (s : Sec) : Sec := if s.1 = th ∧ s.2.2.2 = -1 then (s.1, s.2.1, s.2.2.1, st) else s
def secStep (bg : Int) (S : List Sec) (x : Ev) : List Sec := S.map (clo x.2.1 x.1) ++ if x.2.2.1 = bg then [(x.2.1, x.2.2.2, x.1, -1)] else []
def fin (E : List Ev) (s : Sec) : Sec := if s.2.2.2 = -1 then (s.1, s.2.1, s.2.2.1, nxt s.1 E) else s
theorem fold_refS (bg : Int) : ∀ (E : List Ev) (S : List Sec), (∀ x ∈ E, x.1 ≠ -1) → E.foldl (secStep bg) S = S.map (fin E) ++ refS bg E
  | [], S, _ => by
    have : fin [] = id := by
      funext ⟨a, b, c, d⟩
      unfold fin
      split
      · rename_i h; simp only at h; subst h; rfl
      · rfl
    simp [refS, this]
  | x :: E, S, h => by
    obtain ⟨st, th, kd, val⟩ := x
    have hx : st ≠ -1 := h _ List.mem_cons_self
    rw [List.foldl_cons, fold_refS bg E _ fun y hy => h y (List.mem_cons_of_mem _ hy)]
    unfold secStep
    have hc : ∀ s, fin E (clo th st s) = fin ((st, th, kd, val) :: E) s := by
      rintro ⟨a, b, c, d⟩
      unfold clo fin
      simp only [nxt]
      by_cases h1 : d = -1
      · subst h1
        by_cases h2 : a = th
        · subst h2
          simp [hx]
        · have h3 : ¬ th = a := fun q => h2 q.symm
          simp [h2, h3]
      · simp [h1]
    rw [List.map_append, List.map_map, refS]
    have hm : S.map (fin E ∘ clo th st) = S.map (fin ((st, th, kd, val) :: E)) := List.map_congr_left fun s _ => hc s
    rw [hm, List.append_assoc]
    congr 1
    simp only
    split
    · simp [fin]
    · rfl
theorem secs_refS {bg : Int} {E : List Ev} (h : ∀ x ∈ E, x.1 ≠ -1) : E.foldl (secStep bg) [] = refS bg E := by
  rw [fold_refS bg E [] h]; rfl
end Go.Proofs.Ythhohpbghfbkbaa

set_option linter.unusedVariables false
set_option linter.unusedSimpArgs false
namespace Go.Proofs.Ythhohpbghfbkbaa
open Go.Am

theorem evCs_cell {E : List Ev} {i j : Nat} (hi : i < E.length) (hj : j < 4) : (evCs E)[i * 4 + j]? = (evC E[i])[j]? := by
  rw [← List.getElem?_drop, evCs_drop, List.drop_eq_getElem_cons hi]
  show (evC E[i] ++ evCs (E.drop (i + 1)))[j]? = _
  rw [List.getElem?_append_left (by simp only [evC, List.length_cons, List.length_nil]; omega)]
theorem secCs_cell {E : List Sec} {i j : Nat} (hi : i < E.length) (hj : j < 4) : (secCs E)[i * 4 + j]? = (secC E[i])[j]? := by
  rw [← List.getElem?_drop, secCs_drop, List.drop_eq_getElem_cons hi]
  show (secC E[i] ++ secCs (E.drop (i + 1)))[j]? = _
  rw [List.getElem?_append_left (by simp only [secC, List.length_cons, List.length_nil]; omega)]
theorem nxt_at {th : Int} {E : List Ev} {j : Nat} (hj : j < E.length) : nxt th (E.drop j) = if E[j].2.1 = th then E[j].1 else nxt th (E.drop (j + 1)) := by
  rw [List.drop_eq_getElem_cons hj, nxt]
set_option maxRecDepth 100000 in
set_option maxHeartbeats 1000000 in
theorem endsB {O : Over} (E : List Ev) (b : Nat) (cap i : Nat) (ro : Bool) (hi : i < E.length) (hn : E.length ≤ 100000) (h : PT ABlk) (N : Nat) (hW : WfH h N) (hb : h.get b = some (.cells (PT.ofList .leaf 0 (evCs E)) ro)) :
    EvB Try.prog O 54 [.slice (some ⟨b, 0, none⟩) E.length cap, .int .i64 i] h N fun v h' n' => v = .int .i64 (nxt E[i].2.1 (E.drop (i + 1))) ∧ h' = h ∧ n' = N := by
  refine EvB_run (N := 30) Try.func54 rfl rfl fun z hP hO hro hN hQ => ?_
  repeat' first | simp (config := { maxSteps := 2000000 }) (disch := omega) only [go_sem, *, Try.results54] | (first | apply EvG_ndec | apply EvC_ndec | apply EvG_dec | apply EvC_dec | apply EvC_nbool | apply EvC_bool | apply EvG_nbool | apply EvG_bool) <;> intro _ | (first | apply EvH_ndec | apply EvH_dec | apply EvH_nbool | apply EvH_bool) <;> intro _ | refine EvK_draw (id := 4) (L := [(0, 1), (0, 5), (1, 5), (2, 5), (3, 5), (4, 5), (0, 6), (1, 6), (2, 6), (3, 6), (4, 6), (5, 6), (0, 7), (1, 7), (2, 7), (3, 7), (4, 7), (0, 8), (1, 8), (2, 8), (3, 8), (4, 8), (0, 9), (1, 9), (2, 9), (3, 9), (4, 9)]) (by kernel_rfl) (by kernel_rfl) ?_
  refine ind_loop (fun t m h' n' => ∃ j : Nat, i < j ∧ j ≤ E.length ∧ t = E.length - j ∧ m.n = 30 ∧ m.dfs = [] ∧ m.get 0 = .slice (some ⟨b, 0, none⟩) E.length cap ∧ m.get 1 = .int .i64 i ∧ m.get 5 = .int .i64 j ∧ n' = N ∧ h' = h ∧ nxt E[i].2.1 (E.drop j) = nxt E[i].2.1 (E.drop (i + 1))) (E.length - (i + 1)) ?_ ?_
  · refine ⟨i + 1, by omega, by omega, by omega, ?_⟩
    have hci : ((i + 1 : Nat) : Int) = (i : Int) + 1 := by omega
    rw [hci]
    simp (config := { maxSteps := 2000000 }) (disch := omega) only [go_sem, *]
    try trivial
  · rintro t m h' n' ih ⟨j, hij, hj, rfl, m1, m2, m3, m4, m5, rfl, rfl, q3⟩
    rcases Nat.lt_or_ge j E.length with hlt | hge
    · have e7 : (j : Int) < E.length := by omega
      have e8 : (i : Int) < E.length := by omega
      rw [nxt_at hlt] at q3
      have ci := evCs_cell (j := 1) hi (by omega)
      have cj := evCs_cell (j := 1) hlt (by omega)
      have cj0 := evCs_cell (j := 0) hlt (by omega)
      obtain ⟨⟨st, th, kd, val⟩, hx⟩ : ∃ x, E[i] = x := ⟨_, rfl⟩
      obtain ⟨⟨st', th', kd', val'⟩, hx'⟩ : ∃ x, E[j] = x := ⟨_, rfl⟩
      rw [hx] at ci q3
      rw [hx'] at cj cj0 q3
      simp only [evC, List.getElem?_cons_zero, List.getElem?_cons_succ, Nat.add_zero] at ci cj cj0
      have hpl : (evCs E).length = E.length * 4 := evCs_length E
      simp only at q3
      rw [hx] at hQ ih
      simp only at hQ ih
      clear hx hx'
      by_cases he : th' = th
      · subst he
        rw [if_pos rfl] at q3
        repeat' first | simp (config := { maxSteps := 2000000 }) (disch := omega) only [go_sem, *, Try.results54] | (first | apply EvG_ndec | apply EvC_ndec | apply EvG_dec | apply EvC_dec | apply EvC_nbool | apply EvC_bool | apply EvG_nbool | apply EvG_bool) <;> intro _ | (first | apply EvH_ndec | apply EvH_dec | apply EvH_nbool | apply EvH_bool) <;> intro _ | refine EvK_draw (id := 4) (L := [(0, 1), (0, 5), (1, 5), (2, 5), (3, 5), (4, 5), (0, 6), (1, 6), (2, 6), (3, 6), (4, 6), (5, 6), (0, 7), (1, 7), (2, 7), (3, 7), (4, 7), (0, 8), (1, 8), (2, 8), (3, 8), (4, 8), (0, 9), (1, 9), (2, 9), (3, 9), (4, 9)]) (by kernel_rfl) (by kernel_rfl) ?_
      · rw [if_neg he] at q3
        repeat' first | simp (config := { maxSteps := 2000000 }) (disch := omega) only [go_sem, *, Try.results54] | (first | apply EvG_ndec | apply EvC_ndec | apply EvG_dec | apply EvC_dec | apply EvC_nbool | apply EvC_bool | apply EvG_nbool | apply EvG_bool) <;> intro _ | (first | apply EvH_ndec | apply EvH_dec | apply EvH_nbool | apply EvH_bool) <;> intro _ | refine EvK_draw (id := 4) (L := [(0, 1), (0, 5), (1, 5), (2, 5), (3, 5), (4, 5), (0, 6), (1, 6), (2, 6), (3, 6), (4, 6), (5, 6), (0, 7), (1, 7), (2, 7), (3, 7), (4, 7), (0, 8), (1, 8), (2, 8), (3, 8), (4, 8), (0, 9), (1, 9), (2, 9), (3, 9), (4, 9)]) (by kernel_rfl) (by kernel_rfl) ?_
        refine ih (E.length - (j + 1)) _ _ _ (by omega) ⟨j + 1, by omega, by omega, rfl, ?_⟩
        have hci : ((j + 1 : Nat) : Int) = (j : Int) + 1 := by omega
        rw [hci]
        simp (config := { maxSteps := 2000000 }) (disch := omega) only [go_sem, *]
    · have e7 : ¬ (j : Int) < E.length := by omega
      rw [List.drop_eq_nil_of_le hge] at q3
      have q4 : nxt E[i].2.1 (E.drop (i + 1)) = -1 := q3.symm
      rw [q4] at hQ
      clear ih q3
      repeat' first | simp (config := { maxSteps := 2000000 }) (disch := omega) only [go_sem, *, Try.results54] | (first | apply EvG_ndec | apply EvC_ndec | apply EvG_dec | apply EvC_dec | apply EvC_nbool | apply EvC_bool | apply EvG_nbool | apply EvG_bool) <;> intro _ | (first | apply EvH_ndec | apply EvH_dec | apply EvH_nbool | apply EvH_bool) <;> intro _ | refine EvK_draw (id := 4) (L := [(0, 1), (0, 5), (1, 5), (2, 5), (3, 5), (4, 5), (0, 6), (1, 6), (2, 6), (3, 6), (4, 6), (5, 6), (0, 7), (1, 7), (2, 7), (3, 7), (4, 7), (0, 8), (1, 8), (2, 8), (3, 8), (4, 8), (0, 9), (1, 9), (2, 9), (3, 9), (4, 9)]) (by kernel_rfl) (by kernel_rfl) ?_
end Go.Proofs.Ythhohpbghfbkbaa
