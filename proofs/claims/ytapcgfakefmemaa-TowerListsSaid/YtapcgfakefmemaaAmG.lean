/-
  The abstract machine: the operations' simulations: '==', arithmetic, conversions, slices, interfaces.
-/
import Derived.Test.YtapcgfakefmemaaAmF
import Derived.Laws.StructEq
set_option linter.unusedSimpArgs false
set_option linter.unusedVariables false
namespace Go.Am
open Go.RowKit

section
variable {P : Program} {Γ : Emb} {W w : World} {h : PT ABlk} {n : Nat}

def eqElems (P : Program) (D : Nat) (e : TypeId) (size : Nat) (xs ys : Array Value) : List Nat → Sem Bool
  | [] => pure true
  | i :: r => do
    let a ← part e xs (i * size)
    let b ← part e ys (i * size)
    let q ← Op.equalIn D e a b
    if (!q) = true then pure false else eqElems P D e size xs ys r

theorem run_equalIn_array (D : Nat) (t e : TypeId) (len : Nat) (i : TypeInfo) (xs ys : Array Value) (ht : P.underlying t = some (.array len e)) (hi : P.info? e = some i) (w : World) :
    (Op.equalIn (D + 1) t (.agg xs) (.agg ys)).run P w = (eqElems P D e i.size xs ys (List.range' 0 len)).run P w := by
  simp only [Op.equalIn, Sem.run_bind, run_underlying ht, Result.andThen_ok, run_size hi]
  rw [Std.Legacy.Range.forIn_eq_forIn_range']
  simp only [Std.Legacy.Range.size, Nat.sub_zero, Nat.add_sub_cancel, Nat.div_one]
  generalize List.range' 0 len 1 = l
  induction l generalizing w with
  | nil => simp [eqElems]
  | cons f fs ih =>
    simp only [List.forIn_cons, eqElems, Sem.run_bind, Sem.run_ite]
    · generalize (part e xs (f * i.size)).run P w = r1
      cases r1 with
      | ok a w1 =>
        simp only [Result.andThen_ok]
        generalize (part e ys (f * i.size)).run P w1 = r2
        cases r2 with
        | ok b w2 =>
          simp only [Result.andThen_ok]
          generalize (Op.equalIn D e a b).run P w2 = r3
          cases r3 with
          | ok r w3 =>
            cases r
            · simp only [Result.andThen_ok, Bool.not_false, if_true, Sem.run_pure]
            · simp only [Result.andThen_ok, Bool.not_true, Bool.false_eq_true, if_false, Sem.run_pure]
              exact ih w3
          | halt x w3 => simp [Result.andThen]
        | halt x w2 => simp [Result.andThen]
      | halt x w1 => simp [Result.andThen]

def EqR (_ : Emb) (a b : Bool) : Prop := a = b

theorem fieldsEq_sim (D : Nat) (eqf : TypeId → Value → Value → AP Bool) (heq : ∀ (Γ : Emb) t x y x' y', VRel Γ x x' → VRel Γ y y' → Sim P Γ (eqf t x y) (Op.equalIn D t x' y') EqR)
    {xs ys xs' ys' : List Value} : ∀ (fs : List Field) (Γ : Emb), VRels Γ xs xs' → VRels Γ ys ys' → Sim P Γ (fieldsEq P eqf xs ys fs) (Op.eqFields D ⟨xs'⟩ ⟨ys'⟩ fs) EqR
  | [], Γ, _, _ => fun W h n w hS => SimAt.ok hS rfl rfl
  | f :: fs, Γ, hx, hy => by
    intro W h n w hS
    unfold fieldsEq Op.eqFields
    split
    · rename_i hn
      split
      · rename_i a b ha hb
        obtain ⟨a', hra, hva⟩ := part_sim hx ha
        obtain ⟨b', hrb, hvb⟩ := part_sim hy hb
        refine SimAt.congr (w' := w) (e' := do
            let r ← Op.equalIn D f.type a' b'
            if (!r) = true then pure false else Op.eqFields D ⟨xs'⟩ ⟨ys'⟩ fs) ?_ ?_
        · simp [hra, hrb]
        · refine SimAt.bind (heq Γ _ _ _ _ _ hva hvb W h n w hS) fun Γ' q q' hle hq => ?_
          obtain rfl : q = q' := hq
          intro W h n w hS
          cases q
          · exact SimAt.ok hS rfl rfl
          · exact fieldsEq_sim D eqf heq fs Γ' (hx.mono hle) (hy.mono hle) W h n w hS
      · exact SimAt.fail
    · exact fieldsEq_sim D eqf heq fs Γ hx hy W h n w hS

theorem elemsEq_sim (D : Nat) (eqf : TypeId → Value → Value → AP Bool) (heq : ∀ (Γ : Emb) t x y x' y', VRel Γ x x' → VRel Γ y y' → Sim P Γ (eqf t x y) (Op.equalIn D t x' y') EqR)
    (e : TypeId) (size : Nat) {xs ys xs' ys' : List Value} : ∀ (k i : Nat) (Γ : Emb), VRels Γ xs xs' → VRels Γ ys ys' → Sim P Γ (elemsEq P eqf e size xs ys k i) (eqElems P D e size ⟨xs'⟩ ⟨ys'⟩ (List.range' i k)) EqR
  | 0, i, Γ, _, _ => fun W h n w hS => SimAt.ok hS rfl rfl
  | k + 1, i, Γ, hx, hy => by
    intro W h n w hS
    unfold elemsEq
    rw [List.range'_succ]
    unfold eqElems
    split
    · rename_i a b ha hb
      obtain ⟨a', hra, hva⟩ := part_sim hx ha
      obtain ⟨b', hrb, hvb⟩ := part_sim hy hb
      refine SimAt.congr (w' := w) (e' := do
          let r ← Op.equalIn D e a' b'
          if (!r) = true then pure false else eqElems P D e size ⟨xs'⟩ ⟨ys'⟩ (List.range' (i + 1) k)) ?_ ?_
      · simp [hra, hrb]
      · refine SimAt.bind (heq Γ _ _ _ _ _ hva hvb W h n w hS) fun Γ' q q' hle hq => ?_
        obtain rfl : q = q' := hq
        intro W h n w hS
        cases q
        · exact SimAt.ok hS rfl rfl
        · exact elemsEq_sim D eqf heq e size k (i + 1) Γ' (hx.mono hle) (hy.mono hle) W h n w hS
    · exact SimAt.fail

set_option maxHeartbeats 4000000 in
theorem aEqual_sim : ∀ (d D : Nat) (_ : d ≤ D) (Γ : Emb) (t : TypeId) (x y x' y' : Value), VRel Γ x x' → VRel Γ y y' → Sim P Γ (aEqual P d t x y) (Op.equalIn D t x' y') EqR
  | 0, D, _, Γ, t, x, y, x', y', hx, hy => fun W h n w hS => SimAt.fail
  | d + 1, 0, hD, Γ, t, x, y, x', y', hx, hy => absurd hD (by omega)
  | d + 1, D + 1, hD, Γ, t, x, y, x', y', hx, hy => by
    intro W h n w hS
    have ih := aEqual_sim d D (by omega)
    unfold aEqual
    split
    · rename_i a b hd
      cases hx; cases hy
      exact SimAt.ok hS (b := a == b) (by simp [Op.equalIn, run_und hd]) rfl
    · rename_i k0 k a k' b hd
      cases hx; cases hy
      split
      · rename_i hk
        exact SimAt.ok hS (b := a == b) (by simp [Op.equalIn, run_und hd, hk]) rfl
      · exact SimAt.fail
    · rename_i a b hd
      cases hx; cases hy
      exact SimAt.ok hS (b := a == b) (by simp [Op.equalIn, run_und hd]) rfl
    · rename_i e b hd
      cases hx
      cases hy with
      | nilptr => exact SimAt.ok hS (b := true) (by simp [Op.equalIn, run_und hd]) rfl
      | ptr a a' ha => exact SimAt.ok hS (b := false) (by simp [Op.equalIn, run_und hd]) rfl
    · rename_i e a hd
      cases hx with
      | ptr _ a' ha =>
        cases hy
        exact SimAt.ok hS (b := false) (by simp [Op.equalIn, run_und hd]) rfl
    · rename_i e a b hd
      cases hx with
      | ptr _ a' ha =>
        cases hy with
        | ptr _ b' hb =>
          split
          · rename_i i hi
            cases hz : Nat.beq i.size 0 with
            | true => exact SimAt.fail
            | false =>
              have hz : i.size ≠ 0 := fun e => by rw [e] at hz; exact Bool.noConfusion hz
              have hrun : ∀ w, (Op.equalIn (D + 1) t (.pointer (some a')) (.pointer (some b'))).run P w = (sameAddr a' b').run P w := by
                intro w; simp [Op.equalIn, run_und hd, run_size hi, hz]
              obtain ⟨s, e1, o1⟩ := ha.at_
              obtain ⟨s', e2, o2⟩ := hb.at_
              simp only [cond_false]
              cases hbl : Nat.beq a.block b.block with
              | true =>
                have hbl := Nat.eq_of_beq_eq_true hbl
                rw [hbl, e2] at e1
                obtain ⟨hbe, rfl⟩ : b'.block = a'.block ∧ s' = s := by simpa using e1
                refine SimAt.ok hS (b := a' == b') ?_ ?_
                · rw [hrun]; simp [sameAddr, hbe]
                · show Nat.beq a.off b.off = (a' == b')
                  have h1 := ha.spot'; have h2 := hb.spot'
                  rw [Bool.eq_iff_iff]
                  constructor
                  · intro hq
                    have := Nat.eq_of_beq_eq_true hq
                    obtain ⟨ab, ao, as⟩ := a'; obtain ⟨bb, bo, bs⟩ := b'
                    simp_all
                  · intro hq
                    have hq : a' = b' := by simpa using hq
                    rw [hq, o2] at o1
                    have : a.off = b.off := by omega
                    rw [this]; exact Nat.beq_refl _
              | false =>
                have hne : a.block ≠ b.block := fun e => by rw [e, Nat.beq_refl] at hbl; exact Bool.noConfusion hbl
                simp only [cond_false]
                refine SimAt.get fun A hA => ?_
                split
                · rename_i ca
                  refine SimAt.get fun B hB => ?_
                  split
                  · rename_i cb
                    have hdis := hS.disj _ _ _ _ _ _ _ _ hne hA hB e1 e2 rfl
                    obtain ⟨_, _, _, ⟨csa, ela, fza, ha1, ha2, _⟩, _⟩ := hS.block hA ha rfl
                    obtain ⟨_, _, _, ⟨csb, elb, fzb, hb1, hb2, _⟩, _⟩ := hS.block hB hb rfl
                    obtain rfl := ha2 rfl
                    obtain rfl := hb2 rfl
                    refine SimAt.ok hS (b := false) ?_ rfl
                    rw [hrun]
                    have fa : ∀ o, World.frozen? w ⟨a'.block, o, none⟩ = false := fun o => by simp [World.frozen?, ha1]
                    have fb : ∀ o, World.frozen? w ⟨b'.block, o, none⟩ = false := fun o => by simp [World.frozen?, hb1]
                    have fa' : w.frozen? a' = false := by simp [World.frozen?, ha1]
                    have fb' : w.frozen? b' = false := by simp [World.frozen?, hb1]
                    have sa : w.shape? a'.block = some (ela, csa.size) := by simp [World.shape?, ha1]
                    have sb : w.shape? b'.block = some (elb, csb.size) := by simp [World.shape?, hb1]
                    simp [sameAddr, hdis, fa', fb', noView, viewAt, sa, sb, mayBeOne, stringish, fa, fb]
                  · exact SimAt.fail
                · exact SimAt.fail
          · exact SimAt.fail
    · rename_i ms hd
      cases hx; cases hy
      exact SimAt.ok hS (b := true) (by simp [Op.equalIn, run_und hd]) rfl
    · rename_i ms _ _ hd
      cases hx; cases hy
      exact SimAt.ok hS (b := false) (by simp [Op.equalIn, run_und hd]) rfl
    · rename_i ms _ _ hd
      cases hx; cases hy
      exact SimAt.ok hS (b := false) (by simp [Op.equalIn, run_und hd]) rfl
    · rename_i ms tx vx ty vy hd
      cases hx with
      | iface _ _ vx' hvx =>
        cases hy with
        | iface _ _ vy' hvy =>
          split
          · rename_i hty
            subst hty
            split
            · rename_i i hi
              cases hc : i.comparable with
              | false => exact SimAt.fail
              | true =>
                refine SimAt.congr (w' := w) (e' := Op.equalIn D tx vx' vy') ?_ (ih Γ tx vx vy vx' vy' hvx hvy W h n w hS)
                simp [Op.equalIn, run_und hd, run_info hi, hc]
            · exact SimAt.fail
          · rename_i hty
            exact SimAt.ok hS (b := false) (by simp [Op.equalIn, run_und hd, hty]) rfl
    · rename_i fs xs ys hd
      cases hx with
      | agg l l' hl =>
        cases hy with
        | agg m m' hm =>
          cases hs : P.stoodInHeld t with
          | true => exact SimAt.fail
          | false =>
            simp only [cond_false]
            have hfo : P.fieldsOf t = fs := by simp [Program.fieldsOf, hd]
            refine SimAt.congr (w' := w) (e' := Op.eqFields D ⟨l'⟩ ⟨m'⟩ fs.toList) ?_ (fieldsEq_sim D _ (fun Γ t x y x' y' hx hy => ih Γ t x y x' y' hx hy) fs.toList Γ hl hm W h n w hS)
            rw [run_equalIn_struct w D t _ _ (by rw [hfo]; exact hd) hs, hfo]
    · rename_i len e xs ys hd
      cases hx with
      | agg l l' hl =>
        cases hy with
        | agg m m' hm =>
          split
          · rename_i i hi
            refine SimAt.congr (w' := w) (e' := eqElems P D e i.size ⟨l'⟩ ⟨m'⟩ (List.range' 0 len)) ?_ (elemsEq_sim D _ (fun Γ t x y x' y' hx hy => ih Γ t x y x' y' hx hy) e i.size len 0 Γ hl hm W h n w hS)
            exact run_equalIn_array D t e len i _ _ hd hi w
          · exact SimAt.fail
    · rename_i e _ _ b _ _ hd
      cases hx
      cases hy with
      | nilslice => exact SimAt.ok hS (b := true) (by simp [Op.equalIn, run_und hd]) rfl
      | slice => exact SimAt.ok hS (b := false) (by simp [Op.equalIn, run_und hd]) rfl
    · rename_i hd
      cases hx; cases hy
      exact SimAt.ok hS (b := false) (by simp [Op.equalIn, run_und hd]) rfl
    · rename_i hd
      cases hx
      cases hy with
      | nilmap => exact SimAt.ok hS (b := true) (by simp [Op.equalIn, run_und hd]) rfl
      | map => exact SimAt.ok hS (b := false) (by simp [Op.equalIn, run_und hd]) rfl
    · rename_i hd
      cases hx; cases hy
      exact SimAt.ok hS (b := false) (by simp [Op.equalIn, run_und hd]) rfl
    · rename_i hd
      cases hx; cases hy
      exact SimAt.ok hS (b := true) (by simp [Op.equalIn, run_und hd]) rfl
    · rename_i hd
      cases hx; cases hy
      exact SimAt.ok hS (b := false) (by simp [Op.equalIn, run_und hd]) rfl
    · rename_i hd
      cases hx; cases hy
      exact SimAt.ok hS (b := false) (by simp [Op.equalIn, run_und hd]) rfl
    · exact SimAt.fail

end
end Go.Am
