/-
  A part of the proof: contracts of inner functions.
-/
import Derived.Test.YtapcgfakefmemaaT9P5
import Derived.Test.YtapcgfakefmemaaAmU4
set_option linter.unusedVariables false
set_option linter.unusedSimpArgs false
namespace Go.Proofs.Ytapcgfakefmemaa
open Go.Am
def atL (a : Addr) (B : ABlk) : AP ANext := AP.bind (match B with
    | .cells c _ => match wordOf c a with | some n => .pure (.int .u64 n) | none => .fail "atomic"
    | _ => .fail "atomic") fun v => .pure (.value v)
def atS (a : Addr) (v : Int) (B : ABlk) : AP ANext := AP.bind (match B with
    | .cells c false => match wordOf c a with | some _ => .set a.block (.cells (c.set a.off (some (.int .u64 v))) false) (.pure (.tuple ⟨[]⟩)) | none => .fail "atomic"
    | _ => .fail "atomic") fun v => .pure (.value v)
def atW (a : Addr) (v : Int) (B : ABlk) : AP ANext := AP.bind (match B with
    | .cells c false => match wordOf c a with | some n => .set a.block (.cells (c.set a.off (some (.int .u64 v))) false) (.pure (.int .u64 n)) | none => .fail "atomic"
    | _ => .fail "atomic") fun v => .pure (.value v)
@[go_sem] theorem callLoad {b off : Nat} {sp : Option Nat} : aCallFunc Try.prog 81 [.pointer (some ⟨b, off, sp⟩)] = .get b (atL ⟨b, off, sp⟩) := by kernel_rfl
@[go_sem] theorem callStore {b off : Nat} {sp : Option Nat} {v : Int} : aCallFunc Try.prog 87 [.pointer (some ⟨b, off, sp⟩), .int .u64 v] = .get b (atS ⟨b, off, sp⟩ v) := by kernel_rfl
@[go_sem] theorem callSwap {b off : Nat} {sp : Option Nat} {v : Int} : aCallFunc Try.prog 80 [.pointer (some ⟨b, off, sp⟩), .int .u64 v] = .get b (atW ⟨b, off, sp⟩ v) := by kernel_rfl
def atLR : Option Value → AP ANext
  | some (.int .u64 n) => .pure (.value (.int .u64 n))
  | _ => .fail "atomic"
def atSR (b off : Nat) (v : Int) (L : List Value) : Option Value → AP ANext
  | some (.int .u64 _) => .set b (.cells (PT.ofList .leaf 0 (L.set off (.int .u64 v))) false) (.pure (.value (.tuple ⟨[]⟩)))
  | _ => .fail "atomic"
def atWR (b off : Nat) (v : Int) (L : List Value) : Option Value → AP ANext
  | some (.int .u64 n) => .set b (.cells (PT.ofList .leaf 0 (L.set off (.int .u64 v))) false) (.pure (.value (.int .u64 n)))
  | _ => .fail "atomic"
@[go_sem] theorem atLR_some {n : Int} : atLR (some (.int .u64 n)) = .pure (.value (.int .u64 n)) := rfl
@[go_sem] theorem atSR_some {b off : Nat} {v n : Int} {L : List Value} : atSR b off v L (some (.int .u64 n)) = .set b (.cells (PT.ofList .leaf 0 (L.set off (.int .u64 v))) false) (.pure (.value (.tuple ⟨[]⟩))) := rfl
@[go_sem] theorem atWR_some {b off : Nat} {v n : Int} {L : List Value} : atWR b off v L (some (.int .u64 n)) = .set b (.cells (PT.ofList .leaf 0 (L.set off (.int .u64 v))) false) (.pure (.value (.int .u64 n))) := rfl
theorem wordOf_row {L : List Value} {b off : Nat} {sp : Option Nat} : wordOf (PT.ofList .leaf 0 L) ⟨b, off, sp⟩ = match L[off]? with | some (.int .u64 n) => some n | _ => none := by
  unfold wordOf
  rw [PT.get_ofList_leaf]
  rfl
@[go_sem] theorem atL_row {L : List Value} {ro : Bool} {b off : Nat} {sp : Option Nat} : atL ⟨b, off, sp⟩ (.cells (PT.ofList .leaf 0 L) ro) = atLR L[off]? := by
  simp only [atL, wordOf_row]
  cases L[off]? with
  | none => rfl
  | some v => cases v with
    | int k n => cases k <;> rfl
    | _ => rfl
@[go_sem] theorem atS_row {L : List Value} {v : Int} {b off : Nat} {sp : Option Nat} : atS ⟨b, off, sp⟩ v (.cells (PT.ofList .leaf 0 L) false) = atSR b off v L L[off]? := by
  simp only [atS, wordOf_row]
  cases e : L[off]? with
  | none => rfl
  | some u =>
    have hl := (List.getElem?_eq_some_iff.1 e).1
    cases u with
    | int k n =>
      cases k with
      | u64 => simp only [AP.bind, atSR, row_set _ _ _ hl]
      | _ => rfl
    | _ => rfl
@[go_sem] theorem atW_row {L : List Value} {v : Int} {b off : Nat} {sp : Option Nat} : atW ⟨b, off, sp⟩ v (.cells (PT.ofList .leaf 0 L) false) = atWR b off v L L[off]? := by
  simp only [atW, wordOf_row]
  cases e : L[off]? with
  | none => rfl
  | some u =>
    have hl := (List.getElem?_eq_some_iff.1 e).1
    cases u with
    | int k n =>
      cases k with
      | u64 => simp only [AP.bind, atWR, row_set _ _ _ hl]
      | _ => rfl
    | _ => rfl
end Go.Proofs.Ytapcgfakefmemaa
set_option linter.unusedVariables false
set_option linter.unusedSimpArgs false
namespace Go.Proofs.Ytapcgfakefmemaa
open Go.Am
def acc (th a old v : Int) : List Value := [.int .i64 th, .int .i64 a, .int .u8 2, .int .u64 old, .int .u64 v, .bool false]
theorem swapB {O : Over} (wb off : Nat) (L : List Value) (old v : Int) (h : PT ABlk) (n : Nat) (hb : h.get wb = some (.cells (PT.ofList .leaf 0 L) false)) (ho : L[off]? = some (.int .u64 old)) :
    EvB Try.prog O 52 [.pointer (some ⟨wb, off, none⟩), .int .u64 v] h n fun r h' n' => r = .int .u64 old ∧ h' = h.set wb (some (.cells (PT.ofList .leaf 0 (L.set off (.int .u64 v))) false)) ∧ n' = n := by
  refine EvB_run (N := 10) Try.func52 rfl rfl fun z hP hO hro hN hQ => ?_
  repeat' first | simp (maxSteps := 2000000) (disch := omega) only [go_sem, *, Try.results52] | (first | apply xg1 | apply xc1 | apply xg2 | apply xc2 | apply xc3 | apply xc4 | apply xg3 | apply xg4) <;> intro _
theorem loadB {O : Over} (wb off : Nat) (L : List Value) (ro : Bool) (old : Int) (h : PT ABlk) (n : Nat) (hb : h.get wb = some (.cells (PT.ofList .leaf 0 L) ro)) (ho : L[off]? = some (.int .u64 old)) :
    EvB Try.prog O 54 [.pointer (some ⟨wb, off, none⟩)] h n fun r h' n' => r = .int .u64 old ∧ h' = h ∧ n' = n := by
  refine EvB_run (N := 7) Try.func54 rfl rfl fun z hP hO hro hN hQ => ?_
  repeat' first | simp (maxSteps := 2000000) (disch := omega) only [go_sem, *, Try.results54] | (first | apply xg1 | apply xc1 | apply xg2 | apply xc2 | apply xc3 | apply xc4 | apply xg3 | apply xg4) <;> intro _
theorem storeAB {O : Over} (wb off : Nat) (L : List Value) (old v : Int) (h : PT ABlk) (n : Nat) (hb : h.get wb = some (.cells (PT.ofList .leaf 0 L) false)) (ho : L[off]? = some (.int .u64 old)) :
    EvB Try.prog O 66 [.pointer (some ⟨wb, off, none⟩), .int .u64 v] h n fun r h' n' => r = .tuple ⟨[]⟩ ∧ h' = h.set wb (some (.cells (PT.ofList .leaf 0 (L.set off (.int .u64 v))) false)) ∧ n' = n := by
  refine EvB_run (N := 9) Try.func66 rfl rfl fun z hP hO hro hN hQ => ?_
  repeat' first | simp (maxSteps := 2000000) (disch := omega) only [go_sem, *, Try.results66] | (first | apply xg1 | apply xc1 | apply xg2 | apply xc2 | apply xc3 | apply xc4 | apply xg3 | apply xg4) <;> intro _
  rfl
theorem memCheckB {O : Over} (mb : Nat) (x : Option Addr) (len cap : Nat) (lg : Value) (ro : Bool) (th a : Int) (h : PT ABlk) (n : Nat) (hb : h.get mb = some (.cells (PT.ofList .leaf 0 [.slice x len cap, lg]) ro)) (ht : 0 ≤ th ∧ th < 64) :
    EvB Try.prog O 51 [.pointer (some ⟨mb, 0, none⟩), .int .i64 th, .int .i64 a] h n fun r h' n' => r = .int .i64 (if 0 ≤ a ∧ a < len then 0 else 3) ∧ h' = h ∧ n' = n := by
  obtain ⟨ht0, ht1⟩ := ht
  have h1 : ¬ th < 0 := by omega
  have h2 : ¬ (64 : Int) ≤ th := by omega
  clear ht0 ht1
  refine EvB_run (N := 29) Try.func51 rfl rfl fun z hP hO hro hN hQ => ?_
  by_cases c1 : a < 0
  · rw [if_neg (by omega)] at hQ
    repeat' first | simp (maxSteps := 2000000) (disch := omega) only [go_sem, *, Try.results51] | (first | apply xg1 | apply xc1 | apply xg2 | apply xc2 | apply xc3 | apply xc4 | apply xg3 | apply xg4) <;> intro _
  · by_cases c2 : (len : Int) ≤ a
    · rw [if_neg (by omega)] at hQ
      repeat' first | simp (maxSteps := 2000000) (disch := omega) only [go_sem, *, Try.results51] | (first | apply xg1 | apply xc1 | apply xg2 | apply xc2 | apply xc3 | apply xc4 | apply xg3 | apply xg4) <;> intro _
    · rw [if_pos (by omega)] at hQ
      repeat' first | simp (maxSteps := 2000000) (disch := omega) only [go_sem, *, Try.results51] | (first | apply xg1 | apply xc1 | apply xg2 | apply xc2 | apply xc3 | apply xc4 | apply xg3 | apply xg4) <;> intro _
theorem noteB0 {O : Over} (mb : Nat) (ws : Value) (th a old v : Int) (h : PT ABlk) (n : Nat) (hW : WfH h n) (hb : h.get mb = some (.cells (PT.ofList .leaf 0 [ws, .slice none 0 0]) false)) (hws : oneCell ws = true) :
    EvB Try.prog O 53 [.pointer (some ⟨mb, 0, none⟩), .int .i64 th, .int .i64 a, .int .u8 2, .int .u64 old, .int .u64 v, .bool false] h n fun r h' n' => r = .tuple ⟨[]⟩ ∧ n' = n + 2 ∧
      h' = ((h.set n (some (.cells (PT.ofList .leaf 0 (acc th a old v)) false))).set (n + 1) (some (.cells (PT.ofList .leaf 0 (acc th a old v)) false))).set mb (some (.cells (PT.ofList .leaf 0 [ws, .slice (some ⟨n + 1, 0, none⟩) 1 (capInf + 6)]) false)) := by
  have hmn := hW.lt hb
  refine EvB_run (N := 30) Try.func53 rfl rfl fun z hP hO hro hN hQ => ?_
  repeat' first | simp (maxSteps := 2000000) (disch := omega) only [go_sem, *, Try.results53] | (first | apply xg1 | apply xc1 | apply xg2 | apply xc2 | apply xc3 | apply xc4 | apply xg3 | apply xg4) <;> intro _
  exact ⟨rfl, rfl⟩
theorem noteB1 {O : Over} (mb g k : Nat) (G : List Value) (ws : Value) (th a old v : Int) (h : PT ABlk) (n : Nat) (hW : WfH h n) (hb : h.get mb = some (.cells (PT.ofList .leaf 0 [ws, .slice (some ⟨g, 0, none⟩) k (capInf + 6)]) false)) (hg : h.get g = some (.cells (PT.ofList .leaf 0 G) false)) (hG : G.length = k * 6) (hk : 0 < k) (hk2 : k ≤ 1000000) (hgm : g ≠ mb) (hws : oneCell ws = true) :
    EvB Try.prog O 53 [.pointer (some ⟨mb, 0, none⟩), .int .i64 th, .int .i64 a, .int .u8 2, .int .u64 old, .int .u64 v, .bool false] h n fun r h' n' => r = .tuple ⟨[]⟩ ∧ n' = n + 2 ∧
      h' = (((h.set n (some (.cells (PT.ofList .leaf 0 (acc th a old v)) false))).set g none).set (n + 1) (some (.cells (PT.ofList .leaf 0 (G ++ acc th a old v)) false))).set mb (some (.cells (PT.ofList .leaf 0 [ws, .slice (some ⟨n + 1, 0, none⟩) (k + 1) (capInf + 6)]) false)) := by
  have hmn := hW.lt hb
  have hgn := hW.lt hg
  have htk : G.take (k * 6) = G := List.take_of_length_le (by omega)
  have hbq : (k * 6).beq (k * 6) = true := Nat.beq_refl _
  have hble : (k + 1).ble 1048576 = true := Nat.ble_eq_true_of_le (by omega)
  refine EvB_run (N := 30) Try.func53 rfl rfl fun z hP hO hro hN hQ => ?_
  repeat' first | simp (maxSteps := 2000000) (disch := omega) only [go_sem, *, Try.results53] | (first | apply xg1 | apply xc1 | apply xg2 | apply xc2 | apply xc3 | apply xc4 | apply xg3 | apply xg4) <;> intro _
  exact ⟨rfl, rfl⟩
end Go.Proofs.Ytapcgfakefmemaa
set_option linter.unusedVariables false
set_option linter.unusedSimpArgs false
namespace Go.Proofs.Ytapcgfakefmemaa
open Go.Am
theorem setB0 {O : Over} (o51 : O 51 = fun _ => none) (o52 : O 52 = fun _ => none) (o53 : O 53 = fun _ => none) (mb wb len cap : Nat) (L : List Value) (th : Int) (a : Nat) (old v : Int) (h : PT ABlk) (n : Nat) (hW : WfH h n) (hb : h.get mb = some (.cells (PT.ofList .leaf 0 [.slice (some ⟨wb, 0, none⟩) len cap, .slice none 0 0]) false)) (hw : h.get wb = some (.cells (PT.ofList .leaf 0 L) false)) (hne : wb ≠ mb)
    (ht : 0 ≤ th ∧ th < 64) (ha : a < len) (ho : L[a]? = some (.int .u64 old)) :
    EvB Try.prog O 19 [.pointer (some ⟨mb, 0, none⟩), .int .i64 th, .int .i64 a, .int .u64 v] h n fun r h' n' => r = .int .i64 0 ∧ n' = n + 2 ∧
      h' = (((h.set wb (some (.cells (PT.ofList .leaf 0 (L.set a (.int .u64 v))) false))).set n (some (.cells (PT.ofList .leaf 0 (acc th a old v)) false))).set (n + 1) (some (.cells (PT.ofList .leaf 0 (acc th a old v)) false))).set mb (some (.cells (PT.ofList .leaf 0 [.slice (some ⟨wb, 0, none⟩) len cap, .slice (some ⟨n + 1, 0, none⟩) 1 (capInf + 6)]) false)) := by
  have hmn := hW.lt hb
  have hwn := hW.lt hw
  have ha2 : (a : Int) < len := by omega
  refine EvB_run (N := 32) Try.func19 rfl rfl fun z hP hO hro hN hQ => ?_
  repeat' first | simp (maxSteps := 2000000) (disch := omega) only [go_sem, *, Try.results19] | (first | apply xg1 | apply xc1 | apply xg2 | apply xc2 | apply xc3 | apply xc4 | apply xg3 | apply xg4) <;> intro _
  refine EvQ_call ?_ ?_ (by rw [hP, hO]; exact memCheckB mb _ len cap _ false th a _ _ hb ht) ?_
  · simp (maxSteps := 2000000) (disch := omega) only [go_sem, *]
  · simp (maxSteps := 2000000) (disch := omega) only [go_sem, *]
  rintro r h1 n1 ⟨rfl, rfl, rfl⟩
  rw [if_pos (by omega)]
  repeat' first | simp (maxSteps := 2000000) (disch := omega) only [go_sem, *, Try.results19] | (first | apply xg1 | apply xc1 | apply xg2 | apply xc2 | apply xc3 | apply xc4 | apply xg3 | apply xg4) <;> intro _
  refine EvQ_call ?_ ?_ (by rw [hP, hO]; exact swapB wb a L old v _ _ hw ho) ?_
  · simp (maxSteps := 2000000) (disch := omega) only [go_sem, *]
  · simp (maxSteps := 2000000) (disch := omega) only [go_sem, *]
  rintro r h2 n2 ⟨rfl, hh2, hn2⟩
  subst hn2
  have hb2 : h2.get mb = some (.cells (PT.ofList .leaf 0 [.slice (some ⟨wb, 0, none⟩) len cap, .slice none 0 0]) false) := by rw [hh2, heap_ne hne]; exact hb
  have hW2 : WfH h2 n2 := by rw [hh2]; exact WfH.set' hwn hW
  rw [← hh2] at hQ
  clear hh2 hb hw ho hne
  repeat' first | simp (maxSteps := 2000000) (disch := omega) only [go_sem, *, Try.results19] | (first | apply xg1 | apply xc1 | apply xg2 | apply xc2 | apply xc3 | apply xc4 | apply xg3 | apply xg4) <;> intro _
  refine EvQ_call ?_ ?_ (by rw [hP, hO]; exact noteB0 mb _ th a old v _ _ hW2 hb2 rfl) ?_
  · simp (maxSteps := 2000000) (disch := omega) only [go_sem, *]
  · simp (maxSteps := 2000000) (disch := omega) only [go_sem, *]
  rintro r h3 n3 ⟨rfl, rfl, hh3⟩
  rw [← hh3] at hQ
  clear hh3 hb2
  repeat' first | simp (maxSteps := 2000000) (disch := omega) only [go_sem, *, Try.results19] | (first | apply xg1 | apply xc1 | apply xg2 | apply xc2 | apply xc3 | apply xc4 | apply xg3 | apply xg4) <;> intro _
theorem setB1 {O : Over} (o51 : O 51 = fun _ => none) (o52 : O 52 = fun _ => none) (o53 : O 53 = fun _ => none) (mb wb len cap g k : Nat) (L G : List Value) (th : Int) (a : Nat) (old v : Int) (h : PT ABlk) (n : Nat) (hW : WfH h n) (hb : h.get mb = some (.cells (PT.ofList .leaf 0 [.slice (some ⟨wb, 0, none⟩) len cap, .slice (some ⟨g, 0, none⟩) k (capInf + 6)]) false)) (hw : h.get wb = some (.cells (PT.ofList .leaf 0 L) false)) (hne : wb ≠ mb)
    (hg : h.get g = some (.cells (PT.ofList .leaf 0 G) false)) (hG : G.length = k * 6) (hk : 0 < k) (hk2 : k ≤ 1000000) (hgm : g ≠ mb) (hgw : g ≠ wb) (ht : 0 ≤ th ∧ th < 64) (ha : a < len) (ho : L[a]? = some (.int .u64 old)) :
    EvB Try.prog O 19 [.pointer (some ⟨mb, 0, none⟩), .int .i64 th, .int .i64 a, .int .u64 v] h n fun r h' n' => r = .int .i64 0 ∧ n' = n + 2 ∧
      h' = ((((h.set wb (some (.cells (PT.ofList .leaf 0 (L.set a (.int .u64 v))) false))).set n (some (.cells (PT.ofList .leaf 0 (acc th a old v)) false))).set g none).set (n + 1) (some (.cells (PT.ofList .leaf 0 (G ++ acc th a old v)) false))).set mb (some (.cells (PT.ofList .leaf 0 [.slice (some ⟨wb, 0, none⟩) len cap, .slice (some ⟨n + 1, 0, none⟩) (k + 1) (capInf + 6)]) false)) := by
  have hmn := hW.lt hb
  have hwn := hW.lt hw
  have ha2 : (a : Int) < len := by omega
  refine EvB_run (N := 32) Try.func19 rfl rfl fun z hP hO hro hN hQ => ?_
  repeat' first | simp (maxSteps := 2000000) (disch := omega) only [go_sem, *, Try.results19] | (first | apply xg1 | apply xc1 | apply xg2 | apply xc2 | apply xc3 | apply xc4 | apply xg3 | apply xg4) <;> intro _
  refine EvQ_call ?_ ?_ (by rw [hP, hO]; exact memCheckB mb _ len cap _ false th a _ _ hb ht) ?_
  · simp (maxSteps := 2000000) (disch := omega) only [go_sem, *]
  · simp (maxSteps := 2000000) (disch := omega) only [go_sem, *]
  rintro r h1 n1 ⟨rfl, rfl, rfl⟩
  rw [if_pos (by omega)]
  repeat' first | simp (maxSteps := 2000000) (disch := omega) only [go_sem, *, Try.results19] | (first | apply xg1 | apply xc1 | apply xg2 | apply xc2 | apply xc3 | apply xc4 | apply xg3 | apply xg4) <;> intro _
  refine EvQ_call ?_ ?_ (by rw [hP, hO]; exact swapB wb a L old v _ _ hw ho) ?_
  · simp (maxSteps := 2000000) (disch := omega) only [go_sem, *]
  · simp (maxSteps := 2000000) (disch := omega) only [go_sem, *]
  rintro r h2 n2 ⟨rfl, hh2, hn2⟩
  subst hn2
  have hb2 : h2.get mb = some (.cells (PT.ofList .leaf 0 [.slice (some ⟨wb, 0, none⟩) len cap, .slice (some ⟨g, 0, none⟩) k (capInf + 6)]) false) := by rw [hh2, heap_ne hne]; exact hb
  have hg2 : h2.get g = some (.cells (PT.ofList .leaf 0 G) false) := by rw [hh2, heap_ne (fun e => hgw e.symm)]; exact hg
  have hW2 : WfH h2 n2 := by rw [hh2]; exact WfH.set' hwn hW
  rw [← hh2] at hQ
  clear hh2 hb hw ho hne hg
  repeat' first | simp (maxSteps := 2000000) (disch := omega) only [go_sem, *, Try.results19] | (first | apply xg1 | apply xc1 | apply xg2 | apply xc2 | apply xc3 | apply xc4 | apply xg3 | apply xg4) <;> intro _
  refine EvQ_call ?_ ?_ (by rw [hP, hO]; exact noteB1 mb g k G _ th a old v _ _ hW2 hb2 hg2 hG hk hk2 hgm rfl) ?_
  · simp (maxSteps := 2000000) (disch := omega) only [go_sem, *]
  · simp (maxSteps := 2000000) (disch := omega) only [go_sem, *]
  rintro r h3 n3 ⟨rfl, rfl, hh3⟩
  rw [← hh3] at hQ
  clear hh3 hb2 hg2
  repeat' first | simp (maxSteps := 2000000) (disch := omega) only [go_sem, *, Try.results19] | (first | apply xg1 | apply xc1 | apply xg2 | apply xc2 | apply xc3 | apply xc4 | apply xg3 | apply xg4) <;> intro _
end Go.Proofs.Ytapcgfakefmemaa
