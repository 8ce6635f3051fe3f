/-
  The abstract machine: a law's arguments: views of the rows that they point to.
-/
import Derived.Test.YthhohpbghfbkbaaAmY4
import Derived.RowKit3
set_option linter.unusedSimpArgs false
set_option linter.unusedVariables false
namespace Go.Am
open Go.RowKit

/-- A row that an argument points to: its block, where it begins, its cells in the abstract machine's words. -/
structure View where
  b : Nat
  s : Nat
  L : List Value

def viewG (vs : List View) : Emb := ⟨fun i => (vs[i]?).map fun v => (v.b, v.s), fun _ => none⟩
def viewH : List View → PT ABlk := fun vs => PT.ofList .leaf 0 (vs.map fun v => .cells (PT.ofList .leaf 0 v.L) true)

theorem viewH_get (vs : List View) (i : Nat) : (viewH vs).get i = (vs[i]?).map fun v => .cells (PT.ofList .leaf 0 v.L) true := by
  unfold viewH; rw [PT.get_ofList_leaf, List.getElem?_map]
theorem viewH_wf (vs : List View) : WfH (viewH vs) vs.length := by
  intro i hi
  rw [viewH_get, List.getElem?_eq_none hi]; rfl

/-- Each view is there. -/
def ViewOk (vs : List View) (w : World) : Prop := ∀ (k : Nat) (v : View), vs[k]? = some v → ∃ cs el fz, w.heap[v.b]? = some (.cells cs el fz) ∧ ∀ (i : Nat) (x : Value), v.L[i]? = some x → ∃ x', cs[v.s + i]? = some x' ∧ VRel (viewG vs) x x'

theorem law_views {P : Program} {O : Over} (hO : SoundO P O) (hmix : P.follows .mixedOrders = true) {f : FuncId} {args args' : List Value} {vs : List View} {w : World} (hv : ViewOk vs w) (ha : VRels (viewG vs) args args')
    (H : EvB P O f args (viewH vs) vs.length fun v _ _ => v = .bool true) : Calls P f ⟨args'⟩ w fun e w' => e = .returned (.bool true) ∧ GrownA w w' := by
  refine law_args hO hmix (Γ := viewG vs) (h := viewH vs) (n := vs.length) ⟨.refl _ _, fun _ _ => rfl, ?_, ?_, ?_, ?_, ?_, ?_⟩ ha ?_ H
  · intro i B hi
    rw [viewH_get] at hi
    cases hk : vs[i]? with
    | none => rw [hk] at hi; simp at hi
    | some v =>
      rw [hk] at hi
      obtain rfl := Option.some.inj hi
      obtain ⟨cs, el, fz, h1, h2⟩ := hv i v hk
      refine ⟨v.b, v.s, by simp [viewG, hk], ⟨cs, el, fz, h1, fun h => by simp at h, fun j x hx => ?_⟩, fun h => by simp [ABlk.writable] at h⟩
      rw [PT.get_ofList_leaf] at hx
      exact h2 j x hx
  · intro i j B B' b s b' s' hij hi _ _ _ hw
    rw [viewH_get] at hi
    cases hk : vs[i]? with
    | none => rw [hk] at hi; simp at hi
    | some v => rw [hk] at hi; obtain rfl := Option.some.inj hi; simp [ABlk.writable] at hw
  · intro i b s e
    cases hk : vs[i]? with
    | none => simp [viewG, hk] at e
    | some v =>
      simp [viewG, hk] at e
      obtain ⟨cs, el, fz, h1, _⟩ := hv i v hk
      rw [← e.1]
      exact lt_of_heap h1
  · intro b n e; simp [viewG] at e
  · exact ⟨vs.length, fun i hi => by simp [viewG, List.getElem?_eq_none hi]⟩
  · intro i c ro hi
    rw [viewH_get] at hi
    cases hk : vs[i]? with
    | none => rw [hk] at hi; simp at hi
    | some v => rw [hk] at hi; have := ABlk.cells.inj (Option.some.inj hi); exact ⟨v.L, this.1.symm⟩
  · intro i hi; simp [viewG, List.getElem?_eq_none hi]

/-! ### Reading as data, taken apart -/
section
variable {H : Type} {enc : TypeId × Value → H} {P : Program} {w : World} {base : Nat} {spare : Nat → Bool} {held : Bool}

theorem mapM_some {α β : Type} {f : α → Option β} : ∀ {l : List α} {ys : List β}, l.mapM f = some ys → ∀ a ∈ l, ∃ y, f a = some y
  | [], ys, h, a, ha => by simp at ha
  | x :: l, ys, h, a, ha => by
    rw [List.mapM_cons] at h
    cases hx : f x with
    | none => rw [hx] at h; simp at h
    | some y =>
      rw [hx] at h
      cases hl : l.mapM f with
      | none => rw [hl] at h; simp at h
      | some zs =>
        rcases List.mem_cons.1 ha with rfl | ha
        · exact ⟨y, hx⟩
        · exact mapM_some hl a ha

theorem trod_int {fuel : Nat} {t : TypeId} {k : IntKind} {cs : List Value} {x : DataW H × List MemPlace} (ht : P.underlying t = some (.int k)) (h : DataW.trod enc P w base spare held fuel t cs = some x) : ∃ n, cs = [.int k n] ∧ (Lit.int k n).wf = true := by
  cases fuel with
  | zero => simp [DataW.trod] at h
  | succ fuel =>
    rcases cs with _ | ⟨c, _ | ⟨c2, r⟩⟩
    · simp [DataW.trod, ht] at h
    · cases c <;> simp [DataW.trod, ht] at h
      obtain ⟨⟨rfl, h1⟩, _⟩ := h
      exact ⟨_, rfl, h1⟩
    · simp [DataW.trod, ht] at h

theorem trod_struct {fuel : Nat} {t : TypeId} {fs : Array Field} {cs : List Value} {x : DataW H × List MemPlace} (ht : P.underlying t = some (.struct fs)) (h : DataW.trod enc P w base spare held fuel t cs = some x) :
    cs.length = P.cellsOf t ∧ ∃ fuel', ∀ f ∈ fs.toList, ∃ y, DataW.trod enc P w base spare held fuel' f.type ((cs.drop f.offset).take (P.cellsOf f.type)) = some y := by
  cases fuel with
  | zero => simp [DataW.trod] at h
  | succ fuel =>
    unfold DataW.trod at h
    rw [ht] at h
    simp only at h
    split at h
    · rename_i hl
      refine ⟨hl, fuel, ?_⟩
      cases hm : fs.toList.mapM fun f => DataW.trod enc P w base spare held fuel f.type ((cs.drop f.offset).take (P.cellsOf f.type)) with
      | none => rw [hm] at h; simp at h
      | some ys => exact mapM_some hm
    · simp at h

theorem trod_array {fuel : Nat} {t e : TypeId} {n : Nat} {cs : List Value} {x : DataW H × List MemPlace} (ht : P.underlying t = some (.array n e)) (h : DataW.trod enc P w base spare held fuel t cs = some x) :
    cs.length = P.cellsOf t ∧ ∃ fuel', ∀ i, i < n → ∃ y, DataW.trod enc P w base spare held fuel' e ((cs.drop (i * P.cellsOf e)).take (P.cellsOf e)) = some y := by
  cases fuel with
  | zero => simp [DataW.trod] at h
  | succ fuel =>
    unfold DataW.trod at h
    rw [ht] at h
    simp only at h
    split at h
    · rename_i hl
      refine ⟨hl, fuel, fun i hi => ?_⟩
      cases hm : (List.range n).mapM fun i => DataW.trod enc P w base spare held fuel e ((cs.drop (i * P.cellsOf e)).take (P.cellsOf e)) with
      | none => rw [hm] at h; simp at h
      | some ys => exact mapM_some hm i (by simpa using hi)
    · simp at h

theorem trod_slice {fuel : Nat} {t e : TypeId} {cs : List Value} {x : DataW H × List MemPlace} (ht : P.underlying t = some (.slice e)) (h : DataW.trod enc P w base spare held fuel t cs = some x) :
    cs = [.slice none 0 0] ∨ ∃ a len cap, cs = [.slice (some a) len cap] ∧ base ≤ a.block ∧ len ≤ cap ∧ cap ≤ maxLen ∧ ∃ fuel', ∀ i, i < len → ∃ l y, w.cells? base (a.add (i * P.cellsOf e)) (P.cellsOf e) = some l ∧ DataW.trod enc P w base spare held fuel' e l = some y := by
  cases fuel with
  | zero => simp [DataW.trod] at h
  | succ fuel =>
    rcases cs with _ | ⟨c, _ | ⟨c2, r⟩⟩
    · simp [DataW.trod, ht] at h
    · cases c with
      | slice a len cap =>
        cases a with
        | none =>
          left
          unfold DataW.trod at h
          rw [ht] at h
          split at h <;> simp_all
        | some a =>
          right
          unfold DataW.trod at h
          rw [ht] at h
          simp only at h
          split at h
          · rename_i hc
            refine ⟨a, len, cap, rfl, hc.1, hc.2.1, hc.2.2, fuel, fun i hi => ?_⟩
            cases hm : (List.range len).mapM fun i => (w.cells? base (a.add (i * P.cellsOf e)) (P.cellsOf e)).bind (DataW.trod enc P w base spare held fuel e) with
            | none => rw [hm] at h; simp at h
            | some ys =>
              obtain ⟨y, hy⟩ := mapM_some hm i (by simpa using hi)
              cases hl : w.cells? base (a.add (i * P.cellsOf e)) (P.cellsOf e) with
              | none => rw [hl] at hy; simp at hy
              | some l => rw [hl] at hy; exact ⟨l, y, rfl, hy⟩
          · simp at h
      | _ => simp [DataW.trod, ht] at h
    · simp [DataW.trod, ht] at h
end
end Go.Am
