/-
  The abstract machine: a function of a number and of a row of bytes, called with one number and one row that are written out: what it gives is reckoned once.
-/
import Derived.Test.YtbifkkhmfojlpaaGreatAmZ
set_option linter.unusedVariables false
set_option linter.unusedSimpArgs false
noncomputable section
namespace Go.Am
open Go.RowKit

def isRow (c : PT Value) : List Int → Nat → Bool
  | [], _ => true
  | x :: r, off => match c.get off with
    | some (.int .u8 y) => cond (decide (y = x)) (isRow c r (off + 1)) false
    | _ => false
theorem isRow_get {c : PT Value} : ∀ {l : List Int} {off : Nat}, isRow c l off = true → ∀ i x, l[i]? = some x → c.get (off + i) = some (.int .u8 x)
  | [], off, h, i, x, e => by simp at e
  | y :: l, off, h, i, x, e => by
    unfold isRow at h
    split at h
    · rename_i z hz
      cases hd : decide (z = y) with
      | false => rw [hd] at h; simp at h
      | true =>
        rw [hd] at h
        have := of_decide_eq_true hd
        subst this
        cases i with
        | zero => simp at e; subst e; exact hz
        | succ i =>
          have := isRow_get (l := l) (off := off + 1) h i x (by simpa using e)
          rw [show off + (i + 1) = off + 1 + i by omega]; exact this
    · simp at h

def roS (k : Int) (lits : List Int) : List Value → Option (AP Value)
  | [.int .i64 k', .slice (some a) n c] => some (cond (decide (k' = k) && Nat.beq a.off 0 && Nat.beq n lits.length && Nat.beq c lits.length) (.get a.block fun
      | .cells cs _ => cond (isRow cs lits 0) (.pure (.bool true)) (.fail "row")
      | _ => .fail "row") (.fail "row"))
  | _ => none

def sRo (lits : List Int) : HS := ⟨PT.set .leaf 0 (some (.cells (PT.ofList .leaf 0 (lits.map (.int .u8))) true)), 1, [], []⟩

def roTrue (P : Program) (O : Over) (fuel : Nat) (f : FuncId) (k : Int) (lits : List Int) : Bool :=
  isTrue (callZ P O (evZ P O fuel) 0 f [.int .i64 k, .slice (some ⟨0, 0, none⟩) lits.length lits.length] (sRo lits))

theorem closedRo {P : Program} {O : Over} (hO : SoundO P O) (hmix : P.follows .mixedOrders = true) {fuel : Nat} {f : FuncId} {k : Int} {lits : List Int} (hlen : Nat.blt lits.length capInf = true) (hl : roTrue P O fuel f k lits = true) : SoundF P f (roS k lits) := by
  intro args m hm Γ W w h n lim rd wr args' v s' ha hS hr hfree
  unfold roS at hm
  split at hm
  · rename_i k' a nn cc
    simp only [Option.some.injEq] at hm
    subst hm
    cases hc : (decide (k' = k) && Nat.beq a.off 0 && Nat.beq nn lits.length && Nat.beq cc lits.length) with
    | false => rw [hc] at hr; simp [AP.run] at hr
    | true =>
      rw [hc] at hr
      simp only [Bool.and_eq_true, decide_eq_true_eq] at hc
      obtain ⟨⟨⟨rfl, h0⟩, h1⟩, h2⟩ := hc
      have h0 := Nat.eq_of_beq_eq_true h0
      have h1 := Nat.eq_of_beq_eq_true h1
      have h2 := Nat.eq_of_beq_eq_true h2
      subst h1 h2
      simp only [cond_true, AP.run] at hr
      cases hb : h.get a.block with
      | none => simp only [hb] at hr; simp at hr
      | some B =>
        simp only [hb] at hr
        cases B with
        | cells cs ro =>
          simp only at hr
          cases hrow : isRow cs lits 0 with
          | false => rw [hrow] at hr; simp [AP.run] at hr
          | true =>
            rw [hrow] at hr
            simp only [cond_true, AP.run, Res.ok.injEq] at hr
            obtain ⟨rfl, hs'⟩ := hr
            have hs2 : s'.heap = h := by rw [← hs']; cases Nat.blt a.block lim <;> rfl
            have hlen' : ¬ capInf ≤ lits.length := by
              have : lits.length < capInf := Nat.le_of_ble_eq_true hlen
              omega
            cases ha with
            | cons _ _ _ _ hk ht =>
              cases ht with
              | cons _ _ _ _ hs ht =>
                cases ht
                cases hk
                cases hs with
                | slice _ a' _ _ c' hadr hcap =>
                  have hadr := hadr.exact (.inr hlen')
                  obtain ⟨s0, e0, o0⟩ := hadr.at_
                  obtain ⟨b, s, eb, hB, _⟩ := hS.live _ _ hb
                  rw [e0] at eb
                  simp only [Option.some.injEq, Prod.mk.injEq] at eb
                  obtain ⟨rfl, rfl⟩ := eb
                  have hc' : c' = lits.length := by
                    unfold Emb.cap at hcap
                    rw [if_neg hlen'] at hcap; exact hcap
                  subst hc'
                  obtain ⟨cells, el, fz, g1, g2, g3⟩ := hB
                  let Γ0 : Emb := ⟨fun i => if i = 0 then some (a'.block, s0) else none, fun _ => none⟩
                  have hS0 : SRel Γ0 w (sRo lits).heap w := by
                    refine ⟨.refl _ _, fun _ _ => rfl, fun i B hB => ?_, fun i j B B' b s b' s' hij hB hB' => ?_, fun i b s hb => ?_, fun b n hb => by simp [Γ0] at hb, ⟨1, fun i hi => if_neg (by omega)⟩, fun i c ro e => ?_⟩
                    · simp only [sRo, PT.get_set, PT.get_leaf] at hB
                      split at hB
                      · rename_i hi
                        simp only [Option.some.injEq] at hB
                        subst hB hi
                        refine ⟨a'.block, s0, rfl, ⟨cells, el, fz, g1, fun e => by simp at e, fun i v e => ?_⟩, fun hw => by simp [ABlk.writable] at hw⟩
                        rw [PT.get_ofList_leaf, List.getElem?_map] at e
                        cases hx : lits[i]? with
                        | none => rw [hx] at e; simp at e
                        | some x =>
                          rw [hx] at e
                          simp only [Option.map_some, Option.some.injEq] at e
                          subst e
                          have := isRow_get hrow i x hx
                          rw [Nat.zero_add] at this
                          obtain ⟨v', q1, q2⟩ := g3 _ _ this
                          refine ⟨v', q1, ?_⟩
                          cases q2
                          exact .int _ _
                      · simp at hB
                    · simp only [sRo, PT.get_set, PT.get_leaf] at hB hB'
                      split at hB
                      · split at hB'
                        · omega
                        · simp at hB'
                      · simp at hB
                    · simp only [Γ0] at hb
                      split at hb
                      · simp only [Option.some.injEq, Prod.mk.injEq] at hb
                        obtain ⟨rfl, rfl⟩ := hb
                        exact hS.dom _ _ _ e0
                      · simp at hb
                    · simp only [sRo, PT.get_set, PT.get_leaf] at e
                      split at e
                      · simp only [Option.some.injEq, ABlk.cells.injEq] at e
                        exact ⟨_, e.1.symm⟩
                      · simp at e
                  unfold roTrue at hl
                  rw [callZ_eq, evZ_eq] at hl
                  cases hcl : callA P O (evC P O fuel) 0 f [.int .i64 k', .slice (some ⟨0, 0, none⟩) lits.length lits.length] (sRo lits) with
                  | fail q => rw [hcl] at hl; simp [isTrue] at hl
                  | ok v s2 =>
                    rw [hcl] at hl
                    have hv : v = .bool true := by
                      unfold isTrue at hl
                      split at hl
                      · rename_i he; simp only [Res.ok.injEq] at he; exact he.1
                      · simp at hl
                    subst hv
                    have hargs : VRels Γ0 [.int .i64 k', .slice (some ⟨0, 0, none⟩) lits.length lits.length] [.int .i64 k', .slice (some a') lits.length lits.length] := by
                      refine .cons _ _ _ _ (.int _ _) (.cons _ _ _ _ (.slice _ _ _ _ _ (.inl ⟨rfl, hadr.spot', s0, rfl, ?_⟩) ?_) .nil)
                      · rw [o0, h0]
                      · unfold Emb.cap; rw [if_neg hlen']
                    have := call_sound hO (ev_sound hO hmix fuel).1 (loc_ev fuel) hcl (Nat.zero_le _) (fun id hid => by
                      show (sRo lits).heap.get id = none
                      simp only [sRo, PT.get_set, PT.get_leaf]
                      have : 1 ≤ id := hid
                      rw [if_neg (by omega)]) hS0 (fun id b hb => hb) hargs (fun i hi _ => if_neg (by have : 1 ≤ i := hi; omega)) none
                    refine CallsIn.mono (show CallsIn Fence.wide 0 P f _ w _ from this) ?_
                    rintro en w' ⟨Γ2, v', H', rfl, hex, hvr⟩
                    cases hvr
                    have hbl := hex.rel.below
                    have hsame : ∀ i, i < w.heap.size → w'.heap[i]? = w.heap[i]? := hbl.block
                    rw [hs2]
                    refine ⟨Γ, .bool true, rfl, .refl _, ⟨?_, fun a ha => (hex.rel.fz a (Nat.lt_of_lt_of_le ha hS.below.size)).trans (hS.fz a ha), ?_, hS.disj, ?_, ?_, hS.fin, hS.rows⟩, fun _ _ => rfl, .bool _⟩
                    · exact ⟨hbl.os.trans hS.below.os, hbl.tape.trans hS.below.tape, hbl.output.trans hS.below.output, Nat.le_trans hS.below.size hbl.size, fun i hi => (hsame i (Nat.lt_of_lt_of_le hi hS.below.size)).trans (hS.below.block i hi)⟩
                    · intro i B hi
                      obtain ⟨b, s, e, r, hw⟩ := hS.live i B hi
                      exact ⟨b, s, e, r.world (hsame b (hS.dom i b s e)), hw⟩
                    · intro i b s e
                      exact Nat.lt_of_lt_of_le (hS.dom i b s e) hbl.size
                    · intro b n e
                      obtain ⟨c, el, fz, h1, h2⟩ := hS.siz b n e
                      exact ⟨c, el, fz, (hsame b (lt_of_heap h1)).trans h1, h2⟩
        | _ => simp [AP.run] at hr
  · simp at hm
end Go.Am
