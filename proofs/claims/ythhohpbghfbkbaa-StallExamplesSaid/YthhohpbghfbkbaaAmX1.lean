/-
  The abstract machine: more fuel gives the same.
-/
import Derived.Test.YthhohpbghfbkbaaAmW
set_option linter.unusedSimpArgs false
set_option linter.unusedVariables false
namespace Go.Am

section
variable {P : Program} {O : Over}

def EvLe (ev ev' : EvT) : Prop := ∀ ro lim c m s x s', ev ro lim c m s = .ok x s' → ev' ro lim c m s = .ok x s'

theorem EvLe.refl (ev : EvT) : EvLe ev ev := fun _ _ _ _ _ _ _ h => h
theorem EvLe.trans {a b c : EvT} (h : EvLe a b) (k : EvLe b c) : EvLe a c := fun _ _ _ _ _ _ _ e => k _ _ _ _ _ _ _ (h _ _ _ _ _ _ _ e)

theorem bnd_mono {α β : Type} {r r' : Res α} {k k' : α → HS → Res β} {b : β} {s' : HS} (hr : ∀ a s, r = .ok a s → r' = .ok a s) (hk : ∀ a s, r = .ok a s → ∀ b s', k a s = .ok b s' → k' a s = .ok b s') (h : bnd r k = .ok b s') : bnd r' k' = .ok b s' := by
  obtain ⟨a, s, e, e'⟩ := bnd_ok h
  rw [hr a s e]
  exact hk a s e b s' e'

variable {ev ev' : EvT} (h : EvLe ev ev')
include h

theorem body_mono {lim : Nat} {f : FuncId} {args : List Value} {s s' : HS} {v : Value} (e : bodyA P ev lim f args s = .ok v s') : bodyA P ev' lim f args s = .ok v s' := by
  unfold bodyA at e ⊢
  cases hf : P.funcs[f]? with
  | none => rw [hf] at e; simp at e
  | some fn =>
    rw [hf] at e
    simp only at e ⊢
    cases hb : fn.body with
    | none => rw [hb] at e; simp at e
    | some c =>
      rw [hb] at e
      simp only at e ⊢
      exact bnd_mono (fun a s q => h _ _ _ _ _ _ _ q) (fun a s _ b s' q => q) e

theorem call_mono {lim : Nat} {f : FuncId} {args : List Value} {s s' : HS} {v : Value} (e : callA P O ev lim f args s = .ok v s') : callA P O ev' lim f args s = .ok v s' := by
  unfold callA at e ⊢
  cases hO : O f args with
  | none => rw [hO] at e; exact body_mono h e
  | some m => rw [hO] at e; exact e

theorem round_mono {lim l : Nat} {m : Tm} {as bd : Code} {s s' : HS} {v : Value} (e : roundA ev lim l m as bd s = .ok v s') : roundA ev' lim l m as bd s = .ok v s' := by
  unfold roundA at e ⊢
  refine bnd_mono (fun a s q => h _ _ _ _ _ _ _ q) (fun a s _ b s' q => ?_) e
  cases hx : a.1 with
  | exit id => simp [hx] at q
  | ret => simp [hx] at q
  | normal =>
    simp only [hx] at q ⊢
    exact bnd_mono (fun _ _ q => q) (fun a s _ b s' q => bnd_mono (fun a s q => h _ _ _ _ _ _ _ q) (fun _ _ _ _ _ q => q) q) q

theorem next_mono {lim : Nat} {x : ANext} {s s' : HS} {v : Value} (e : nextA P O ev lim x s = .ok v s') : nextA P O ev' lim x s = .ok v s' := by
  cases x with
  | value v => exact e
  | skip => exact e
  | enter f args => exact call_mono h e
  | round l m as bd => exact round_mono h e

theorem val_mono {lim : Nat} {ρ : Operand → Value} {o : Oper} {s s' : HS} {v : Value} (e : valA P O ev lim ρ o s = .ok v s') : valA P O ev' lim ρ o s = .ok v s' := by
  unfold valA at e ⊢
  cases hc : o.op.operands.toList.all opFlat with
  | false => rw [hc] at e; simp at e
  | true =>
    rw [hc] at e
    simp only [cond_true] at e ⊢
    exact bnd_mono (fun _ _ q => q) (fun a s _ b s' q => next_mono h q) e

theorem op_mono {lim : Nat} {ops : List Oper} {o : Oper} {m m' : Tm} {s s' : HS} (e : opA P O ev lim ops o m s = .ok m' s') : opA P O ev' lim ops o m s = .ok m' s' := by
  unfold opA at e ⊢
  refine bnd_mono (fun a s q => ?_) (fun _ _ _ _ _ q => q) e
  cases hw : wantedA ops m o with
  | true => rw [hw] at q; exact val_mono h q
  | false => rw [hw] at q; exact q

theorem ops_mono {lim : Nat} {ops : List Oper} : ∀ (r : List Oper) {m m' : Tm} {s s' : HS}, opsA P O ev lim ops r m s = .ok m' s' → opsA P O ev' lim ops r m s = .ok m' s'
  | [], _, _, _, _, e => e
  | o :: r, m, m', s, s', e => by
    unfold opsA at e ⊢
    exact bnd_mono (fun a s q => op_mono h q) (fun a s _ b s' q => ops_mono r q) e

theorem opsF_mono {ops : List Oper} : ∀ (r : List Oper) {m : Tm} {H : PT ABlk} {n : Nat} {x : Tm × List Foot} {s' : HS}, opsF P O ev ops r m H n = .ok x s' → opsF P O ev' ops r m H n = .ok x s'
  | [], _, _, _, _, _, e => e
  | o :: r, m, H, n, x, s', e => by
    unfold opsF at e ⊢
    exact bnd_mono (fun a s q => op_mono h q) (fun a s _ b s' q => bnd_mono (fun _ _ q => opsF_mono r q) (fun _ _ _ _ _ q => q) q) e

theorem draw_mono {lim : Nat} {ops : List Oper} {m m' : Tm} {s s' : HS} (e : drawA P O ev lim ops m s = .ok m' s') : drawA P O ev' lim ops m s = .ok m' s' := by
  unfold drawA at e ⊢
  cases hd : drawOk ops (loosePairs (ancestors [] ops) ops.length) with
  | false => rw [hd] at e; simp at e
  | true =>
    rw [hd] at e
    simp only [cond_true] at e ⊢
    exact bnd_mono (fun _ _ q => opsF_mono h ops q) (fun _ _ _ _ _ q => q) e

theorem range_mono {ro : Option Nat} {lim : Nat} {g : Operand} {ps : List Tmp} {as bd : Code} {m : Tm} {s s' : HS} {x : AExit × Tm} (e : rangeA P O ev ro lim g ps as bd m s = .ok x s') : rangeA P O ev' ro lim g ps as bd m s = .ok x s' := by
  unfold rangeA at e ⊢
  cases hg : opFlat g with
  | false => rw [hg] at e; simp at e
  | true =>
    rw [hg] at e
    simp only [cond_true] at e ⊢
    exact bnd_mono (fun _ _ q => q) (fun _ _ _ _ _ q => bnd_mono (fun _ _ q => q) (fun _ _ _ _ _ q => bnd_mono (fun _ _ q => call_mono h q) (fun _ _ _ _ _ q => q) q) q) e

theorem step_mono : EvLe (stepC P O ev) (stepC P O ev') := by
  intro ro lim c m s x s' e
  cases c with
  | skip => exact e
  | label l => exact e
  | region id ops draw =>
    simp only [stepC] at e ⊢
    refine bnd_mono (fun a s q => ?_) (fun _ _ _ _ _ q => q) e
    cases draw with
    | true => exact draw_mono h q
    | false => exact ops_mono h _ q
  | seq a b =>
    simp only [stepC] at e ⊢
    refine bnd_mono (fun _ _ q => h _ _ _ _ _ _ _ q) (fun a s _ b s' q => ?_) e
    cases hx : a.1 with
    | normal => simp only [hx] at q ⊢; exact h _ _ _ _ _ _ _ q
    | exit i => simp only [hx] at q ⊢; exact q
    | ret => simp only [hx] at q ⊢; exact q
  | cond c a b =>
    simp only [stepC] at e ⊢
    cases hg : opFlat c with
    | false => rw [hg] at e; simp at e
    | true =>
      rw [hg] at e
      simp only [cond_true] at e ⊢
      generalize m.eval c = z at e ⊢
      cases z with
      | bool t => cases t <;> exact h _ _ _ _ _ _ _ e
      | _ => simp at e
  | block id c =>
    simp only [stepC] at e ⊢
    exact bnd_mono (fun _ _ q => h _ _ _ _ _ _ _ q) (fun _ _ _ _ _ q => q) e
  | loop c =>
    simp only [stepC] at e ⊢
    refine bnd_mono (fun _ _ q => h _ _ _ _ _ _ _ q) (fun a s _ b s' q => ?_) e
    cases hx : a.1 with
    | normal => simp only [hx] at q ⊢; exact h _ _ _ _ _ _ _ q
    | exit i => simp only [hx] at q ⊢; exact q
    | ret => simp only [hx] at q ⊢; exact q
  | exit id => exact e
  | scope c => exact h _ _ _ _ _ _ _ e
  | ret => exact e
  | rangeFunc g ps as bd => exact range_mono h e
  | goto l => simp [stepC] at e
  | refuse w => simp [stepC] at e
omit h

theorem evC_succ (k : Nat) : evC P O (k + 1) = stepC P O (evC P O k) := rfl

theorem evC_mono1 : ∀ k, EvLe (evC P O k) (evC P O (k + 1))
  | 0 => fun ro lim c m s x s' e => by
    have e : (Res.fail "fuel" : Res (AExit × Tm)) = .ok x s' := e
    simp at e
  | k + 1 => step_mono (evC_mono1 k)

theorem evC_mono {k k' : Nat} (hk : k ≤ k') : EvLe (evC P O k) (evC P O k') := by
  induction k' with
  | zero => obtain rfl : k = 0 := by omega
            exact .refl _
  | succ j ih =>
    by_cases hj : k ≤ j
    · exact (ih hj).trans (evC_mono1 j)
    · obtain rfl : k = j + 1 := by omega
      exact .refl _

end
end Go.Am
