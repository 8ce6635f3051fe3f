/-
  The abstract machine, for proofs with variables: rows as wholes in summaries; what is beyond the heap's end; looks within regions that draw.
-/
import Derived.Test.YtbceiadaihphaaaGreatAmY3
import Derived.KernelRfl
set_option linter.unusedSimpArgs false
set_option linter.unusedVariables false
namespace Go.Am
theorem get_of_set {h h' : PT ABlk} {i : Nat} {b : Option ABlk} (e : h.set i b = h') : h'.get i = b := by subst e; exact heap_same
def WfH (h : PT ABlk) (n : Nat) : Prop := ∀ i, n ≤ i → h.get i = none
theorem WfH.lt {h : PT ABlk} {n : Nat} (hw : WfH h n) {i : Nat} {B : ABlk} (e : h.get i = some B) : i < n := by
 rcases Nat.lt_or_ge i n with q | q
 ·exact q
 ·rw [hw i q] at e; simp at e
theorem WfH.set {h : PT ABlk} {n m i : Nat} {b : Option ABlk} (hw : WfH h n) (hn : n ≤ m) (hi : i < m) : WfH (h.set i b) m := by
 intro j hj
 rw [PT.get_set_ne _ _ (by omega)]
 exact hw j (by omega)
theorem WfH.set' {h : PT ABlk} {m i : Nat} {b : Option ABlk} (hi : i < m) (hw : WfH h m) : WfH (h.set i b) m := hw.set (Nat.le_refl _) hi
theorem WfH.mono {h : PT ABlk} {n m : Nat} (hw : WfH h n) (hn : n ≤ m) : WfH h m := fun i hi => hw i (Nat.le_trans hn hi)
theorem Kept.trans {a b c : PT ABlk} (h : Kept a b) (k : Kept b c) : Kept a c := fun i B e => k i B (h i B e)
theorem WfH.kept {h : PT ABlk} {n j : Nat} {b : Option ABlk} (hw : WfH h n) (hj : n ≤ j) : Kept h (h.set j b) := fun i B e => by
 have := hw.lt e
 rw [PT.get_set_ne _ _ (by omega)]; exact e
theorem Kept.set' {h0 h : PT ABlk} {N j : Nat} {b : Option ABlk} (hw : WfH h0 N) (hj : N ≤ j) (hk : Kept h0 h) : Kept h0 (h.set j b) := Kept.set (fun i B e => hw.lt e) hj hk
theorem EvB.wf {P : Program} {O : Over} {f : FuncId} {args : List Value} {h : PT ABlk} {n : Nat} {R : Value → PT ABlk → Nat → Prop} (e : EvB P O f args h n R) (hw : WfH h n) : EvB P O f args h n fun v h' n' => R v h' n' ∧ n ≤ n' ∧ WfH h' n' := by
 obtain ⟨k, v, h', n', e, hR⟩ := e
 obtain ⟨p, _⟩ := loc_body (loc_ev (P := P) (O := O) k) f args h n [] [] v (S0 h' n') e (Nat.zero_le _) hw
 exact ⟨k, v, h', n', e, hR, p.next, p.wf⟩
theorem ofList_inj {L L' : List Value} (h : PT.ofList .leaf 0 L = PT.ofList .leaf 0 L') : L = L' := by
 apply List.ext_getElem?
 intro i
 rw [← PT.get_ofList_leaf L i, ← PT.get_ofList_leaf L' i, h]
noncomputable def rowOf (c : PT Value) : Option (List Value) :=
 match Classical.propDecidable (∃ L, c = PT.ofList .leaf 0 L) with
 | .isTrue h => some (Classical.choose h)
 | .isFalse _ => none
theorem rowOf_row (L : List Value) : rowOf (PT.ofList .leaf 0 L) = some L := by
 have h : ∃ L', PT.ofList .leaf 0 L = PT.ofList .leaf 0 L' := ⟨L, rfl⟩
 unfold rowOf
 split
 ·rename_i h' _
  rw [← ofList_inj (Classical.choose_spec h')]
 ·rename_i h' _; exact absurd h h'
theorem rowOf_some {c : PT Value} {L : List Value} (h : rowOf c = some L) : c = PT.ofList .leaf 0 L := by
 unfold rowOf at h
 split at h
 ·rename_i hc _
  obtain rfl := Option.some.inj h
  exact Classical.choose_spec hc
 ·simp at h
noncomputable def rowB {α : Type} (k : List Value → Bool → AP α) : ABlk → AP α
 | .cells c ro => match rowOf c with
  | some L => k L ro
  | none => .fail ""
 | _ => .fail ""
@[go_sem] theorem rowB_row {α : Type} {k : List Value → Bool → AP α} {L : List Value} {ro : Bool} : rowB k (.cells (PT.ofList .leaf 0 L) ro) = k L ro := by simp only [rowB, rowOf_row]
noncomputable def AP.row {α : Type} (id : Nat) (k : List Value → Bool → AP α) : AP α := .get id (rowB k)
@[go_sem] theorem row_eq {α : Type} {id : Nat} {k : List Value → Bool → AP α} : AP.row id k = .get id (rowB k) := rfl
def AP.setRow {α : Type} (id : Nat) (L : List Value) (k : AP α) : AP α := .set id (.cells (PT.ofList .leaf 0 L) false) k
@[go_sem] theorem setRow_eq {α : Type} {id : Nat} {L : List Value} {k : AP α} : AP.setRow id L k = .set id (.cells (PT.ofList .leaf 0 L) false) k := rfl
def AP.newRow {α : Type} (L : List Value) (k : Nat → AP α) : AP α := .new (.cells (PT.ofList .leaf 0 L) false) k
@[go_sem] theorem newRow_eq {α : Type} {L : List Value} {k : Nat → AP α} : AP.newRow L k = .new (.cells (PT.ofList .leaf 0 L) false) k := rfl
theorem rowB_reads {α : Type} {k : List Value → Bool → AP α} (hk : ∀ L ro, Reads (k L ro)) (b : ABlk) : Reads (rowB k b) := by
 unfold rowB
 split
 ·split
  ·exact hk _ _
  ·exact .fail _
 ·exact .fail _
theorem row_reads {α : Type} {id : Nat} {k : List Value → Bool → AP α} (hk : ∀ L ro, Reads (k L ro)) : Reads (AP.row id k) := .get _ _ (rowB_reads hk)
theorem look_row {α : Type} {h : PT ABlk} {id : Nat} {k : List Value → Bool → AP α} {a : α} (e : (AP.row id k).look h = some a) : ∃ L ro, h.get id = some (.cells (PT.ofList .leaf 0 L) ro) ∧ (k L ro).look h = some a := by
 simp only [AP.row, AP.look] at e
 cases hb : h.get id with
 | none => rw [hb] at e; simp at e
 | some b =>
  rw [hb] at e
  cases b with
  | cells c ro =>
   simp only [rowB] at e
   cases hc : rowOf c with
   | none => rw [hc] at e; simp [AP.look] at e
   | some L => rw [hc] at e; rw [rowOf_some hc]; exact ⟨L, ro, rfl, e⟩
  | _ => simp [rowB, AP.look] at e
@[go_sem] theorem look_pure {α : Type} {h : PT ABlk} {a : α} : (AP.pure a).look h = some a := by rw [AP.look]
theorem look_cond {α : Type} {h : PT ABlk} {b : Bool} {p : AP α} {w : String} {a : α} (e : (cond b p (.fail w)).look h = some a) : b = true ∧ p.look h = some a := by
 cases b with
 | false => simp [AP.look] at e
 | true => exact ⟨rfl, e⟩
theorem VRens.set {I : Nat → Nat → Prop} {Old : Value → Prop} : ∀ {l l' : List Value} (i : Nat) {v v' : Value}, VRens I Old l l' → VRen I Old v v' → VRens I Old (l.set i v) (l'.set i v')
 | _, _, i, _, _, .nil, _ => .nil
 | _, _, 0, _, _, .cons _ _ _ _ _ t, h => .cons _ _ _ _ h t
 | _, _, i + 1, _, _, .cons _ _ _ _ h' t, h => .cons _ _ _ _ h' (t.set i h)
def GrowInts (k : IntKind) (h : PT ABlk) (lo : Nat) (s : Value) (xs : List Int) : Prop :=
 (s = .slice none 0 0 ∧ xs = []) ∨ ∃ b, s = .slice (some ⟨b, 0, none⟩) xs.length (capInf + 1) ∧ lo ≤ b ∧ h.get b = some (.cells (PT.ofList .leaf 0 (xs.map (.int k))) false)
theorem GrowInts.set {k : IntKind} {h : PT ABlk} {lo j : Nat} {s : Value} {xs : List Int} {B : Option ABlk} (hs : GrowInts k h lo s xs) (hj : ∀ b c, s = .slice (some ⟨b, 0, none⟩) xs.length c → j ≠ b) : GrowInts k (h.set j B) lo s xs := by
 rcases hs with hs | ⟨b, e, hl, hb⟩
 ·exact .inl hs
 ·exact .inr ⟨b, e, hl, by rw [PT.get_set_ne _ _ (hj b _ e)]; exact hb⟩
theorem GrowInts.low {k : IntKind} {h : PT ABlk} {lo j : Nat} {s : Value} {xs : List Int} {B : Option ABlk} (hs : GrowInts k h lo s xs) (hj : j < lo) : GrowInts k (h.set j B) lo s xs := by
 rcases hs with hs | ⟨b, e, hl, hb⟩
 ·exact .inl hs
 ·exact .inr ⟨b, e, hl, by rw [PT.get_set_ne _ _ (by omega)]; exact hb⟩
theorem GrowInts.fresh {k : IntKind} {h : PT ABlk} {lo n j : Nat} {s : Value} {xs : List Int} {B : Option ABlk} (hs : GrowInts k h lo s xs) (hW : WfH h n) (hj : n ≤ j) : GrowInts k (h.set j B) lo s xs := by
 rcases hs with hs | ⟨b, e, hl, hb⟩
 ·exact .inl hs
 ·have := hW.lt hb
  exact .inr ⟨b, e, hl, by rw [PT.get_set_ne _ _ (by omega)]; exact hb⟩
@[go_sem] theorem meets_nil' {a : List Nat} : meets a [] = false := by
 induction a with
 | nil => rfl
 | cons x l ih => simp only [meets_cons, List.any_nil, ih, Bool.or_false]
@[go_sem] theorem meetsRange_same {a : List Nat} {n : Nat} : meetsRange a n n = false := by
 induction a with
 | nil => rfl
 | cons x l ih =>
  simp only [meetsRange_cons, ih, Bool.or_false]
  rcases Nat.lt_or_ge x n with q | q
  ·rw [ble_false q]; rfl
  ·rw [blt_false q]; simp
end Go.Am
