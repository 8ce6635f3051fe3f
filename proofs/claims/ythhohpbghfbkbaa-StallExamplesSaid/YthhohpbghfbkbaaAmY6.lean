/-
  The abstract machine: a law's arguments, the second part: parts of a struct with their data; slices of numbers; the law with what lies below.
-/
import Derived.Test.YthhohpbghfbkbaaAmY5
import Derived.SizedLaws
import Derived.Below
set_option linter.unusedSimpArgs false
set_option linter.unusedVariables false
namespace Go.Am
open Go.RowKit

theorem law_views2 {P : Program} {O : Over} (hO : SoundO P O) (hmix : P.follows .mixedOrders = true) {f : FuncId} {args args' : List Value} {vs : List View} {w : World} (hv : ViewOk vs w) (ha : VRels (viewG vs) args args')
    (H : EvB P O f args (viewH vs) vs.length fun v _ _ => v = .bool true) : Calls P f ⟨args'⟩ w fun e w' => e = .returned (.bool true) ∧ GrownA w w' ∧ Below w.heap.size w w' := by
  have hS : SRel (viewG vs) w (viewH vs) w := by
    refine ⟨.refl _ _, fun _ _ => rfl, ?_, ?_, ?_, ?_, ?_, ?_⟩
    · intro i B hi
      rw [viewH_get] at hi
      cases hk : vs[i]? with
      | none => rw [hk] at hi; simp at hi
      | some v =>
        rw [hk] at hi
        obtain rfl := Option.some.inj hi
        obtain ⟨cs, el, fz, h1, h2⟩ := hv i v hk
        refine ⟨v.b, v.s, by simp [viewG, hk], ⟨cs, el, fz, h1, fun h => by simp at h, fun j x hx => ?_⟩, fun h => by simp [ABlk.writable] at h⟩
        rw [PT.get_ofList_leaf] at hx
        exact h2 j x hx
    · intro i j B B' b s b' s' hij hi _ _ _ hw
      rw [viewH_get] at hi
      cases hk : vs[i]? with
      | none => rw [hk] at hi; simp at hi
      | some v => rw [hk] at hi; obtain rfl := Option.some.inj hi; simp [ABlk.writable] at hw
    · intro i b s e
      cases hk : vs[i]? with
      | none => simp [viewG, hk] at e
      | some v =>
        simp [viewG, hk] at e
        obtain ⟨cs, el, fz, h1, _⟩ := hv i v hk
        rw [← e.1]
        exact lt_of_heap h1
    · intro b n e; simp [viewG] at e
    · exact ⟨vs.length, fun i hi => by simp [viewG, List.getElem?_eq_none hi]⟩
    · intro i c ro hi
      rw [viewH_get] at hi
      cases hk : vs[i]? with
      | none => rw [hk] at hi; simp at hi
      | some v => rw [hk] at hi; have := ABlk.cells.inj (Option.some.inj hi); exact ⟨v.L, this.1.symm⟩
  obtain ⟨k, v, h', n', e, rfl⟩ := H
  have hWf : Wf (S0 (viewH vs) vs.length) := by
    intro i hi
    exact viewH_wf vs i hi
  have := body_sound (ev_sound hO hmix k).1 (loc_ev k) e (Nat.zero_le _) hWf hS (fun i b hb => hb) ha (fun i hi _ => by simp [viewG, List.getElem?_eq_none (show vs.length ≤ i from hi)]) none
  have := callsIn_wide.1 (show CallsIn Fence.wide 0 P f ⟨args'⟩ w _ from this)
  refine Calls.mono this ?_
  rintro e w' ⟨Γ', v', H', rfl, hex, hvr⟩
  cases hvr
  have hb := hex.rel.below
  refine ⟨rfl, ⟨⟨hb.os, hb.output, fun i hi => ?_⟩, hex.rel.fz, hb.size⟩, hb⟩
  rw [hb.block i hi]
  cases hw : w.heap[i]? with
  | none => simp [hw]
  | some o => cases o <;> simp [hw]

section
variable {H : Type} {enc : TypeId × Value → H} {P : Program} {w : World} {base : Nat} {spare : Nat → Bool} {held : Bool}

theorem mapM_at {α β : Type} {f : α → Option β} {l : List α} {ys : List β} (h : l.mapM f = some ys) {j : Nat} {a : α} (ha : l[j]? = some a) : ∃ y, ys[j]? = some y ∧ f a = some y := by
  have h1 := mapM_some_get h j a ha
  have h2 := mapM_some_length h
  have h3 : j < ys.length := by
    rw [h2]
    exact (List.getElem?_eq_some_iff.1 ha).1
  exact ⟨ys[j], List.getElem?_eq_getElem h3, by rw [h1, List.getElem?_eq_getElem h3]⟩

theorem trod_struct_at {fuel : Nat} {t : TypeId} {fs : Array Field} {cs : List Value} {x : DataW H × List MemPlace} (ht : P.underlying t = some (.struct fs)) (h : DataW.trod enc P w base spare held fuel t cs = some x) :
    cs.length = P.cellsOf t ∧ ∃ fuel' parts, x.1 = .agg parts ∧ ∀ (j : Nat) (f : Field), fs.toList[j]? = some f → ∃ y, parts[j]? = some y.1 ∧ DataW.trod enc P w base spare held fuel' f.type ((cs.drop f.offset).take (P.cellsOf f.type)) = some y := by
  cases fuel with
  | zero => simp [DataW.trod] at h
  | succ fuel =>
    unfold DataW.trod at h
    rw [ht] at h
    simp only at h
    split at h
    · rename_i hl
      cases hm : fs.toList.mapM fun f => DataW.trod enc P w base spare held fuel f.type ((cs.drop f.offset).take (P.cellsOf f.type)) with
      | none => rw [hm] at h; simp at h
      | some ys =>
        rw [hm] at h
        simp only [Option.map_some, Option.some.injEq] at h
        refine ⟨hl, fuel, ys.map (·.1), by rw [← h], fun j f hf => ?_⟩
        obtain ⟨y, h1, h2⟩ := mapM_at hm hf
        exact ⟨y, by simp [h1], h2⟩
    · simp at h

theorem weights_struct {t : TypeId} {fs : Array Field} {parts : List (DataW H)} {j : Nat} {f : Field} {d : DataW H} (ht : P.underlying t = some (.struct fs)) (hf : fs.toList[j]? = some f) (hd : parts[j]? = some d) : ∀ n ∈ d.weights P f.type, n ∈ (DataW.agg parts).weights P t := by
  intro n hn
  simp only [DataW.weights, ht]
  exact DataW.weights_mem_each (j := j) (by simp [hf]) hd n hn

theorem trod_slice_at {fuel : Nat} {t e : TypeId} {cs : List Value} {x : DataW H × List MemPlace} (ht : P.underlying t = some (.slice e)) (h : DataW.trod enc P w base (fun _ => true) held fuel t cs = some x) :
    cs = [.slice none 0 0] ∨ ∃ a len cap elems rest, cs = [.slice (some a) len cap] ∧ x.1 = .slice elems rest ∧ elems.length + rest.length = cap ∧ len ≤ cap ∧ ∃ fuel', ∀ i, i < len → ∃ l y, w.cells? base (a.add (i * P.cellsOf e)) (P.cellsOf e) = some l ∧ elems[i]? = some y.1 ∧ DataW.trod enc P w base (fun _ => true) held fuel' e l = some y := by
  cases fuel with
  | zero => simp [DataW.trod] at h
  | succ fuel =>
    rcases cs with _ | ⟨c, _ | ⟨c2, r⟩⟩
    · simp [DataW.trod, ht] at h
    · cases c with
      | slice a len cap =>
        cases a with
        | none =>
          left
          unfold DataW.trod at h
          rw [ht] at h
          split at h <;> simp_all
        | some a =>
          right
          unfold DataW.trod at h
          rw [ht] at h
          simp only at h
          split at h
          · rename_i hc
            cases hm : (List.range len).mapM fun i => (w.cells? base (a.add (i * P.cellsOf e)) (P.cellsOf e)).bind (DataW.trod enc P w base (fun _ => true) held fuel e) with
            | none => rw [hm] at h; simp at h
            | some ys =>
              rw [hm] at h
              simp only [Option.bind_some, if_true] at h
              cases hr : (List.range (cap - len)).mapM fun j => (w.cells? base (a.add ((len + j) * P.cellsOf e)) (P.cellsOf e)).bind (DataW.trod enc P w base (fun _ => true) held fuel e) with
              | none => rw [hr] at h; simp at h
              | some zs =>
                rw [hr] at h
                simp only [Option.map_some, Option.some.injEq] at h
                have e1 := mapM_some_length hm
                have e2 := mapM_some_length hr
                simp only [List.length_range] at e1 e2
                refine ⟨a, len, cap, ys.map (·.1), zs.map (·.1), rfl, by rw [← h], ?_, hc.2.1, fuel, fun i hi => ?_⟩
                · have := hc.2.1
                  simp only [List.length_map]; omega
                · obtain ⟨y, h1, h2⟩ := mapM_at hm (j := i) (a := i) (by simp [hi])
                  cases hl : w.cells? base (a.add (i * P.cellsOf e)) (P.cellsOf e) with
                  | none => rw [hl] at h2; simp at h2
                  | some l => rw [hl] at h2; exact ⟨l, y, rfl, by simp [h1], h2⟩
          · simp at h
      | _ => simp [DataW.trod, ht] at h
    · simp [DataW.trod, ht] at h

theorem list_of {α : Type} {p : Nat → α → Prop} : ∀ (n : Nat), (∀ i, i < n → ∃ a, p i a) → ∃ xs : List α, xs.length = n ∧ ∀ i a, xs[i]? = some a → p i a
  | 0, _ => ⟨[], rfl, fun i a h => by simp at h⟩
  | n + 1, h => by
    obtain ⟨xs, h1, h2⟩ := list_of n fun i hi => h i (by omega)
    obtain ⟨a, ha⟩ := h n (by omega)
    refine ⟨xs ++ [a], by simp [h1], fun i b hb => ?_⟩
    by_cases hi : i < n
    · rw [List.getElem?_append_left (by omega)] at hb; exact h2 i b hb
    · rw [List.getElem?_append_right (by omega)] at hb
      have : i = n := by
        rcases Nat.lt_or_ge (i - xs.length) 1 with h | h
        · omega
        · rw [List.getElem?_eq_none (by simpa using h)] at hb; simp at hb
      subst this
      simp [h1] at hb
      subst hb; exact ha

theorem cells?_one {a : Addr} {l : List Value} (h : w.cells? base a 1 = some l) : ∃ c, l = [c] ∧ w.cell? (a.add 0) = some c := by
  unfold World.cells? at h
  split at h
  · simp only [List.range_succ, List.range_zero, List.nil_append, List.mapM_cons, List.mapM_nil] at h
    cases hc : w.cell? (a.add 0) with
    | none => rw [hc] at h; simp at h
    | some c => rw [hc] at h; simp at h; exact ⟨c, h.symm, rfl⟩
  · simp at h

/-- A slice of numbers among the arguments. -/
theorem open_ints {fuel : Nat} {t e : TypeId} {k : IntKind} {cs : List Value} {x : DataW H × List MemPlace} {base' : Nat} (ht : P.underlying t = some (.slice e)) (he : P.underlying e = some (.int k)) (h1 : P.cellsOf e = 1) (hb : 0 < P.bytesOf e)
    (h : DataW.trod enc P w base (fun _ => true) held fuel t cs = some x) (hok : ∀ v, cs[0]? = some v → Cell.okWide P w .any base' t v) (hz : ∀ n ∈ x.1.weights P t, n ≤ reachBytes) :
    ∃ (vs : List View) (sl s' : Value) (xs : List Int), cs = [s'] ∧ ViewOk vs w ∧ VRel (viewG vs) sl s' ∧ IsInts k (viewH vs) sl xs ∧ xs.length ≤ reachBytes ∧ (∀ n ∈ xs, (Lit.int k n).wf = true) ∧ ∀ a n c, sl = .slice a n c → n ≤ c ∧ c < capInf := by
  rcases trod_slice_at ht h with rfl | ⟨a, len, cap, elems, rest, rfl, hx, hcap, hle, fuel', hel⟩
  · exact ⟨[], .slice none 0 0, _, [], rfl, fun k v h => by simp at h, .nilslice 0 0, .inl ⟨rfl, rfl⟩, by simp, by simp, fun a n c e => by cases e; exact ⟨Nat.le_refl _, by decide⟩⟩
  · have hok := hok _ rfl
    unfold Cell.okWide at hok
    rw [ht] at hok
    simp only [Cell.ok, ht] at hok
    obtain ⟨-, -, -, hspot, row, cells, hshape, -⟩ := hok
    have hcells : ∃ c el fz, w.heap[a.block]? = some (.cells c el fz) := by
      unfold World.shape? at hshape
      split at hshape
      · exact ⟨_, _, _, by assumption⟩
      · simp at hshape
    obtain ⟨c, el, fz, hc⟩ := hcells
    obtain ⟨xs, hxl, hxs⟩ : ∃ xs : List Int, xs.length = len ∧ ∀ (i : Nat) n, xs[i]? = some n → c[a.off + i]? = some (.int k n) ∧ (Lit.int k n).wf = true := by
      refine list_of len fun i hi => ?_
      obtain ⟨l, y, hl, -, hy⟩ := hel i hi
      rw [h1, Nat.mul_one] at hl
      obtain ⟨v, rfl, hv⟩ := cells?_one hl
      obtain ⟨n, hn, hw⟩ := trod_int he hy
      simp only [List.cons.injEq, and_true] at hn
      subst hn
      refine ⟨n, ?_, hw⟩
      unfold World.cell? at hv
      have e0 : (a.add i).add 0 = ⟨a.block, a.off + i, none⟩ := by
        unfold Addr.add
        by_cases hi0 : i = 0
        · subst hi0; simp only [if_true]; rw [← hspot]; rfl
        · simp only [if_true, if_neg hi0]
      rw [e0] at hv
      simp only [hc] at hv
      simpa using hv
    have hsz : cap * P.bytesOf e ≤ reachBytes := by
      refine hz _ ?_
      rw [hx]
      simp only [DataW.weights, ht]
      rw [hcap]
      exact List.mem_cons_self
    have hcap2 : cap ≤ reachBytes := Nat.le_trans (Nat.le_mul_of_pos_right _ hb) hsz
    have hlt : ¬ capInf ≤ cap := by
      have : reachBytes < capInf := by decide
      omega
    subst hxl
    refine ⟨[⟨a.block, a.off, xs.map (.int k)⟩], .slice (some ⟨0, 0, none⟩) xs.length cap, _, xs, rfl, ?_, ?_, ?_, by omega, ?_, fun a n c e => by cases e; exact ⟨hle, by omega⟩⟩
    · intro j v hj
      match j, hj with
      | 0, hj =>
        simp only [List.getElem?_cons_zero, Option.some.injEq] at hj
        subst hj
        refine ⟨c, el, fz, hc, fun i x hx => ?_⟩
        simp only [List.getElem?_map] at hx
        cases hi : xs[i]? with
        | none => rw [hi] at hx; simp at hx
        | some n =>
          rw [hi] at hx
          obtain rfl := Option.some.inj hx
          exact ⟨_, (hxs i n hi).1, .int k n⟩
      | j + 1, hj => simp at hj
    · refine .slice _ _ _ _ _ (.inl ⟨rfl, hspot, a.off, rfl, rfl⟩) ?_
      unfold Emb.cap
      rw [if_neg hlt]
    · refine .inr ⟨0, 0, none, cap, xs.map (.int k), true, rfl, by rw [viewH_get]; rfl, ?_, ?_⟩
      · simp
      · rw [List.drop_zero, ← List.length_map (f := Value.int k), List.take_length]
    · intro n hn
      obtain ⟨i, hi⟩ := List.getElem?_of_mem hn
      exact (hxs i n hi).2
end
end Go.Am
