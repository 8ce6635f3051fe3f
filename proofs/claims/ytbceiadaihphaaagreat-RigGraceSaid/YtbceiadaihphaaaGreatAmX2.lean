/-
  A part of the proof: contracts of inner functions.
-/
import Derived.Test.YtbceiadaihphaaaGreatAmW
/-
 The abstract machine: more fuel gives the same.
-/
set_option linter.unusedSimpArgs false
set_option linter.unusedVariables false
namespace Go.Am
section
variable {P : Program} {O : Over}
def EvLe (ev ev' : EvT) : Prop := ∀ ro lim c m s x s', ev ro lim c m s = .ok x s' → ev' ro lim c m s = .ok x s'
theorem EvLe.refl (ev : EvT) : EvLe ev ev := fun _ _ _ _ _ _ _ h => h
theorem EvLe.trans {a b c : EvT} (h : EvLe a b) (k : EvLe b c) : EvLe a c := fun _ _ _ _ _ _ _ e => k _ _ _ _ _ _ _ (h _ _ _ _ _ _ _ e)
theorem bnd_mono {α β : Type} {r r' : Res α} {k k' : α → HS → Res β} {b : β} {s' : HS} (hr : ∀ a s, r = .ok a s → r' = .ok a s) (hk : ∀ a s, r = .ok a s → ∀ b s', k a s = .ok b s' → k' a s = .ok b s') (h : bnd r k = .ok b s') : bnd r' k' = .ok b s' := by
 obtain ⟨a, s, e, e'⟩ := bnd_ok h
 rw [hr a s e]
 exact hk a s e b s' e'
variable {ev ev' : EvT} (h : EvLe ev ev')
include h
theorem body_mono {lim : Nat} {f : FuncId} {args : List Value} {s s' : HS} {v : Value} (e : bodyA P ev lim f args s = .ok v s') : bodyA P ev' lim f args s = .ok v s' := by
 unfold bodyA at e ⊢
 cases hf : P.funcs[f]? with
 | none => rw [hf] at e; simp at e
 | some fn =>
  rw [hf] at e
  simp only at e ⊢
  cases hb : fn.body with
  | none => rw [hb] at e; simp at e
  | some c =>
   rw [hb] at e
   simp only at e ⊢
   exact bnd_mono (fun a s q => h _ _ _ _ _ _ _ q) (fun a s _ b s' q => q) e
theorem call_mono {lim : Nat} {f : FuncId} {args : List Value} {s s' : HS} {v : Value} (e : callA P O ev lim f args s = .ok v s') : callA P O ev' lim f args s = .ok v s' := by
 unfold callA at e ⊢
 cases hO : O f args with
 | none => rw [hO] at e; exact body_mono h e
 | some m => rw [hO] at e; exact e
theorem round_mono {lim l : Nat} {m : Tm} {as bd : Code} {s s' : HS} {v : Value} (e : roundA ev lim l m as bd s = .ok v s') : roundA ev' lim l m as bd s = .ok v s' := by
 unfold roundA at e ⊢
 refine bnd_mono (fun a s q => h _ _ _ _ _ _ _ q) (fun a s _ b s' q => ?_) e
 cases hx : a.1 with
 | exit id => simp [hx] at q
 | ret => simp [hx] at q
 | normal =>
  simp only [hx] at q ⊢
  exact bnd_mono (fun _ _ q => q) (fun a s _ b s' q => bnd_mono (fun a s q => h _ _ _ _ _ _ _ q) (fun _ _ _ _ _ q => q) q) q
theorem next_mono {lim : Nat} {x : ANext} {s s' : HS} {v : Value} (e : nextA P O ev lim x s = .ok v s') : nextA P O ev' lim x s = .ok v s' := by
 cases x with
 | value v => exact e
 | skip => exact e
 | enter f args => exact call_mono h e
 | round l m as bd => exact round_mono h e
theorem val_mono {lim : Nat} {ρ : Operand → Value} {o : Oper} {s s' : HS} {v : Value} (e : valA P O ev lim ρ o s = .ok v s') : valA P O ev' lim ρ o s = .ok v s' := by
 unfold valA at e ⊢
 cases hc : o.op.operands.toList.all opFlat with
 | false => rw [hc] at e; simp at e
 | true =>
  rw [hc] at e
  simp only [cond_true] at e ⊢
  exact bnd_mono (fun _ _ q => q) (fun a s _ b s' q => next_mono h q) e
theorem op_mono {lim : Nat} {ops : List Oper} {o : Oper} {m m' : Tm} {s s' : HS} (e : opA P O ev lim ops o m s = .ok m' s') : opA P O ev' lim ops o m s = .ok m' s' := by
 unfold opA at e ⊢
 refine bnd_mono (fun a s q => ?_) (fun _ _ _ _ _ q => q) e
 cases hw : wantedA ops m o with
 | true => rw [hw] at q; exact val_mono h q
 | false => rw [hw] at q; exact q
theorem ops_mono {lim : Nat} {ops : List Oper} : ∀ (r : List Oper) {m m' : Tm} {s s' : HS}, opsA P O ev lim ops r m s = .ok m' s' → opsA P O ev' lim ops r m s = .ok m' s'
 | [], _, _, _, _, e => e
 | o :: r, m, m', s, s', e => by
  unfold opsA at e ⊢
  exact bnd_mono (fun a s q => op_mono h q) (fun a s _ b s' q => ops_mono r q) e
theorem opsF_mono {ops : List Oper} : ∀ (r : List Oper) {m : Tm} {H : PT ABlk} {n : Nat} {x : Tm × List Foot} {s' : HS}, opsF P O ev ops r m H n = .ok x s' → opsF P O ev' ops r m H n = .ok x s'
 | [], _, _, _, _, _, e => e
 | o :: r, m, H, n, x, s', e => by
  unfold opsF at e ⊢
  exact bnd_mono (fun a s q => op_mono h q) (fun a s _ b s' q => bnd_mono (fun _ _ q => opsF_mono r q) (fun _ _ _ _ _ q => q) q) e
theorem draw_mono {lim : Nat} {ops : List Oper} {m m' : Tm} {s s' : HS} (e : drawA P O ev lim ops m s = .ok m' s') : drawA P O ev' lim ops m s = .ok m' s' := by
 unfold drawA at e ⊢
 cases hd : drawOk ops (loosePairs (ancestors [] ops) ops.length) with
 | false => rw [hd] at e; simp at e
 | true =>
  rw [hd] at e
  simp only [cond_true] at e ⊢
  exact bnd_mono (fun _ _ q => opsF_mono h ops q) (fun _ _ _ _ _ q => q) e
theorem range_mono {ro : Option Nat} {lim : Nat} {g : Operand} {ps : List Tmp} {as bd : Code} {m : Tm} {s s' : HS} {x : AExit × Tm} (e : rangeA P O ev ro lim g ps as bd m s = .ok x s') : rangeA P O ev' ro lim g ps as bd m s = .ok x s' := by
 unfold rangeA at e ⊢
 cases hg : opFlat g with
 | false => rw [hg] at e; simp at e
 | true =>
  rw [hg] at e
  simp only [cond_true] at e ⊢
  exact bnd_mono (fun _ _ q => q) (fun _ _ _ _ _ q => bnd_mono (fun _ _ q => q) (fun _ _ _ _ _ q => bnd_mono (fun _ _ q => call_mono h q) (fun _ _ _ _ _ q => q) q) q) e
theorem step_mono : EvLe (stepC P O ev) (stepC P O ev') := by
 intro ro lim c m s x s' e
 cases c with
 | skip => exact e
 | label l => exact e
 | region id ops draw =>
  simp only [stepC] at e ⊢
  refine bnd_mono (fun a s q => ?_) (fun _ _ _ _ _ q => q) e
  cases draw with
  | true => exact draw_mono h q
  | false => exact ops_mono h _ q
 | seq a b =>
  simp only [stepC] at e ⊢
  refine bnd_mono (fun _ _ q => h _ _ _ _ _ _ _ q) (fun a s _ b s' q => ?_) e
  cases hx : a.1 with
  | normal => simp only [hx] at q ⊢; exact h _ _ _ _ _ _ _ q
  | exit i => simp only [hx] at q ⊢; exact q
  | ret => simp only [hx] at q ⊢; exact q
 | cond c a b =>
  simp only [stepC] at e ⊢
  cases hg : opFlat c with
  | false => rw [hg] at e; simp at e
  | true =>
   rw [hg] at e
   simp only [cond_true] at e ⊢
   generalize m.eval c = z at e ⊢
   cases z with
   | bool t => cases t <;> exact h _ _ _ _ _ _ _ e
   | _ => simp at e
 | block id c =>
  simp only [stepC] at e ⊢
  exact bnd_mono (fun _ _ q => h _ _ _ _ _ _ _ q) (fun _ _ _ _ _ q => q) e
 | loop c =>
  simp only [stepC] at e ⊢
  refine bnd_mono (fun _ _ q => h _ _ _ _ _ _ _ q) (fun a s _ b s' q => ?_) e
  cases hx : a.1 with
  | normal => simp only [hx] at q ⊢; exact h _ _ _ _ _ _ _ q
  | exit i => simp only [hx] at q ⊢; exact q
  | ret => simp only [hx] at q ⊢; exact q
 | exit id => exact e
 | scope c => exact h _ _ _ _ _ _ _ e
 | ret => exact e
 | rangeFunc g ps as bd => exact range_mono h e
 | goto l => simp [stepC] at e
 | refuse w => simp [stepC] at e
omit h
theorem evC_succ (k : Nat) : evC P O (k + 1) = stepC P O (evC P O k) := rfl
theorem evC_mono1 : ∀ k, EvLe (evC P O k) (evC P O (k + 1))
 | 0 => fun ro lim c m s x s' e => by
  have e : (Res.fail "fuel" : Res (AExit × Tm)) = .ok x s' := e
  simp at e
 | k + 1 => step_mono (evC_mono1 k)
theorem evC_mono {k k' : Nat} (hk : k ≤ k') : EvLe (evC P O k) (evC P O k') := by
 induction k' with
 | zero =>
  obtain rfl : k = 0 := by omega
  exact .refl _
 | succ j ih =>
  by_cases hj : k ≤ j
  ·exact (ih hj).trans (evC_mono1 j)
  ·obtain rfl : k = j + 1 := by omega
   exact .refl _
end
end Go.Am
/-
 The abstract machine, for proofs with variables: the evaluator's runs as propositions, with a stack of what is left to do; each rule is an equivalence.
-/
set_option linter.unusedSimpArgs false
set_option linter.unusedVariables false
namespace Go.Am
def S0 (h : PT ABlk) (n : Nat) : HS := ⟨h, n, [], []⟩
inductive KF where
 | seq (c : Code)
 | block (id : Nat)
 | loop (c : Code)
structure Zx where
 P : Program
 O : Over
 ro : Option Nat
 N : Nat
 Q : AExit → Tm → PT ABlk → Nat → Prop
def Ev (z : Zx) (c : Code) (m : Tm) (h : PT ABlk) (n : Nat) (R : AExit → Tm → PT ABlk → Nat → Prop) : Prop :=
 m.n = z.N ∧ ∃ k x h' n', evC z.P z.O k z.ro 0 c m (S0 h n) = .ok x (S0 h' n') ∧ R x.1 x.2 h' n'
def Rs (z : Zx) : List KF → AExit → Tm → PT ABlk → Nat → Prop
 | [], e, m, h, n => m.n = z.N ∧ z.Q e m h n
 | .seq c :: K, e, m, h, n => match e with
  | .normal => Ev z c m h n (Rs z K)
  | _ => Rs z K e m h n
 | .block id :: K, e, m, h, n => match e with
  | .exit i => Rs z K (cond (Nat.beq i id) .normal (.exit i)) m h n
  | _ => Rs z K e m h n
 | .loop c :: K, e, m, h, n => match e with
  | .normal => Ev z (.loop c) m h n (Rs z K)
  | _ => Rs z K e m h n
def EvK (z : Zx) (c : Code) (K : List KF) (m : Tm) (h : PT ABlk) (n : Nat) : Prop := Ev z c m h n (Rs z K)
def EvO (z : Zx) (ops r : List Oper) (K : List KF) (m : Tm) (h : PT ABlk) (n : Nat) : Prop :=
 m.n = z.N ∧ ∃ k m' h' n', opsA z.P z.O (evC z.P z.O k) 0 ops r m (S0 h n) = .ok m' (S0 h' n') ∧ Rs z K .normal m' h' n'
def EvV (z : Zx) (p : AP ANext) (d : Option Nat) (ops r : List Oper) (K : List KF) (m : Tm) (h : PT ABlk) (n : Nat) : Prop :=
 m.n = z.N ∧ ∃ k m' h' n', bnd (p.run 0 (S0 h n)) (fun x s => bnd (nextA z.P z.O (evC z.P z.O k) 0 x s) fun v s => bnd (putA m d v s) fun m s => opsA z.P z.O (evC z.P z.O k) 0 ops r m s) = .ok m' (S0 h' n') ∧ Rs z K .normal m' h' n'
theorem bnd_ok_eq {α β : Type} (a : α) (s : HS) (k : α → HS → Res β) : bnd (.ok a s) k = k a s := rfl
theorem bnd_assoc {α β γ : Type} (r : Res α) (f : α → HS → Res β) (g : β → HS → Res γ) : bnd (bnd r f) g = bnd r fun a s => bnd (f a s) g := by cases r <;> rfl
theorem run0 {α : Type} : ∀ (p : AP α) (h : PT ABlk) (n : Nat) (a : α) (s : HS), p.run 0 (S0 h n) = .ok a s → s = S0 s.heap s.next
 | .pure a, h, n, b, s, e => by simp only [AP.run, Res.ok.injEq] at e; rw [← e.2]; rfl
 | .fail w, h, n, b, s, e => by simp [AP.run] at e
 | .get id k, h, n, b, s, e => by
  simp only [AP.run] at e
  split at e
  ·simp at e
  ·exact run0 _ _ _ _ _ e
 | .set id B k, h, n, b, s, e => by
  simp only [AP.run] at e
  split at e
  ·simp at e
  ·exact run0 k (h.set id (some B)) n b s e
 | .kill id k, h, n, b, s, e => by
  simp only [AP.run] at e
  split at e
  ·simp at e
  ·exact run0 k (h.set id none) n b s e
 | .new B k, h, n, b, s, e => by
  simp only [AP.run] at e
  exact run0 (k n) (h.set n (some B)) (n + 1) b s e
section
variable {P : Program} {O : Over}
def Q0 {α : Type} (F : HS → Res α) : Prop := ∀ h n a s, F (S0 h n) = .ok a s → s = S0 s.heap s.next
theorem Q0.bnd {α β : Type} {F : HS → Res α} {k : α → HS → Res β} (hF : Q0 F) (hk : ∀ a, Q0 (k a)) : Q0 (fun s => bnd (F s) k) := by
 intro h n b s e
 obtain ⟨a, s₁, e₁, e₂⟩ := bnd_ok e
 have := hF _ _ _ _ e₁
 rw [this] at e₂
 exact hk _ _ _ _ _ e₂
theorem Q0.ap {α : Type} (p : AP α) : Q0 (fun s => p.run 0 s) := fun h n a s e => run0 p h n a s e
theorem Q0.ok {α : Type} (a : α) : Q0 (fun s => .ok a s) := fun h n b s e => by simp only [Res.ok.injEq] at e; rw [← e.2]; rfl
theorem Q0.fail {α : Type} (w : String) : Q0 (fun _ => (.fail w : Res α)) := fun h n b s e => by simp at e
def Q0E (ev : EvT) : Prop := ∀ ro c m, Q0 (fun s => ev ro 0 c m s)
variable {ev : EvT}
theorem q0_takeDfs : ∀ l, Q0 (takeDfs 0 l)
 | [] => .ok _
 | d :: r => (Q0.ap (takeDef d)).bnd fun _ => q0_takeDfs r
theorem q0_results (m : Tm) : ∀ l, Q0 (resultsA P 0 m l)
 | [] => .ok _
 | .tmp t :: r => (q0_results m r).bnd fun l => .ok (m.get t :: l)
 | .cell a t :: r => (Q0.ap (aLoad P t (m.get a))).bnd fun v => (q0_results m r).bnd fun l => .ok (v :: l)
theorem q0_after (rs : List ResultVar) (x : AExit × Tm) : Q0 (afterA P 0 rs x) := by
 unfold afterA
 cases x.1 with
 | exit id => exact .fail _
 | normal => exact (q0_takeDfs _).bnd fun _ => (q0_results _ _).bnd fun _ => .ok _
 | ret => exact (q0_takeDfs _).bnd fun _ => (q0_results _ _).bnd fun _ => .ok _
theorem q0_body (h : Q0E ev) (f : FuncId) (args : List Value) : Q0 (bodyA P ev 0 f args) := by
 unfold bodyA
 cases P.funcs[f]? with
 | none => exact .fail _
 | some fn =>
  simp only
  cases fn.body with
  | none => exact .fail _
  | some c => exact (h _ _ _).bnd fun _ => q0_after _ _
theorem q0_call (h : Q0E ev) (f : FuncId) (args : List Value) : Q0 (callA P O ev 0 f args) := by
 unfold callA
 cases O f args with
 | none => exact q0_body h f args
 | some m => exact Q0.ap m
theorem q0_round (h : Q0E ev) (l : Nat) (m : Tm) (as bd : Code) : Q0 (roundA ev 0 l m as bd) := by
 unfold roundA
 refine (h _ _ _).bnd fun x => ?_
 cases x.1 with
 | normal => exact (Q0.ap _).bnd fun _ => (h _ _ _).bnd fun _ => Q0.ap _
 | exit i => exact .fail _
 | ret => exact .fail _
theorem q0_next (h : Q0E ev) (x : ANext) : Q0 (nextA P O ev 0 x) := by
 cases x with
 | value v => exact .ok _
 | skip => exact .ok _
 | enter f args => exact q0_call h f args
 | round l m as bd => exact q0_round h l m as bd
theorem q0_put (m : Tm) (d : Option Nat) (v : Value) : Q0 (putA m d v) := by
 unfold putA
 cases m.put d v with
 | none => exact .fail _
 | some m => exact .ok _
theorem q0_op (h : Q0E ev) (ops : List Oper) (o : Oper) (m : Tm) : Q0 (opA P O ev 0 ops o m) := by
 unfold opA
 refine Q0.bnd ?_ fun v => q0_put m _ v
 cases wantedA ops m o with
 | false => exact .ok _
 | true =>
  show Q0 (valA P O ev 0 m.eval o)
  unfold valA
  cases o.op.operands.toList.all opFlat with
  | false => exact .fail _
  | true => exact (Q0.ap _).bnd fun x => q0_next h x
theorem q0_ops (h : Q0E ev) (ops : List Oper) : ∀ (r : List Oper) (m : Tm), Q0 (opsA P O ev 0 ops r m)
 | [], m => .ok _
 | o :: r, m => (q0_op h ops o m).bnd fun m => q0_ops h ops r m
theorem q0_draw (h : Q0E ev) (ops : List Oper) (m : Tm) : Q0 (drawA P O ev 0 ops m) := by
 intro H n a s e
 unfold drawA at e
 cases hd : drawOk ops (loosePairs (ancestors [] ops) ops.length) with
 | false => rw [hd] at e; simp at e
 | true =>
  rw [hd] at e
  simp only [cond_true] at e
  obtain ⟨x, s₁, e₁, e₂⟩ := bnd_ok e
  cases hf : footsOk x.2 (loosePairs (ancestors [] ops) ops.length) with
  | false => rw [hf] at e₂; simp at e₂
  | true =>
   rw [hf] at e₂
   simp only [cond_true, show Nat.beq 0 0 = true from rfl, Res.ok.injEq] at e₂
   rw [← e₂.2]; rfl
theorem q0_range (h : Q0E ev) (ro : Option Nat) (g : Operand) (ps : List Tmp) (as bd : Code) (m : Tm) : Q0 (rangeA P O ev ro 0 g ps as bd m) := by
 unfold rangeA
 cases opFlat g with
 | false => exact .fail _
 | true => exact (Q0.ap _).bnd fun ld => (Q0.ap _).bnd fun fa => (q0_call h _ _).bnd fun _ => (Q0.ap _).bnd fun _ => .ok _
theorem q0_step (h : Q0E ev) : Q0E (stepC P O ev) := by
 intro ro c m
 cases c with
 | skip => exact .ok _
 | label l => exact .ok _
 | region id ops draw =>
  simp only [stepC]
  refine Q0.bnd ?_ fun _ => .ok _
  cases draw with
  | true => exact q0_draw h _ _
  | false => exact q0_ops h _ _ _
 | seq a b =>
  simp only [stepC]
  refine (h _ _ _).bnd fun x => ?_
  cases x.1 with
  | normal => exact h _ _ _
  | exit i => exact .ok _
  | ret => exact .ok _
 | cond c a b =>
  simp only [stepC]
  cases opFlat c with
  | false => exact .fail _
  | true =>
   simp only [cond_true]
   generalize m.eval c = z
   cases z with
   | bool t => cases t <;> exact h _ _ _
   | _ => exact .fail _
 | block id c =>
  simp only [stepC]
  refine (h _ _ _).bnd fun x => ?_
  cases x.1 <;> exact .ok _
 | loop c =>
  simp only [stepC]
  refine (h _ _ _).bnd fun x => ?_
  cases x.1 with
  | normal => exact h _ _ _
  | exit i => exact .ok _
  | ret => exact .ok _
 | exit id => exact .ok _
 | scope c => exact h _ _ _
 | ret => exact .ok _
 | rangeFunc g ps as bd => exact q0_range h _ _ _ _ _ _
 | goto l => exact .fail _
 | refuse w => exact .fail _
theorem q0_evC : ∀ k, Q0E (evC P O k)
 | 0 => fun ro c m => .fail _
 | k + 1 => q0_step (q0_evC k)
end
section
variable {z : Zx} {K : List KF} {m : Tm} {h : PT ABlk} {n : Nat}
theorem Ev.mono {c : Code} {R R' : AExit → Tm → PT ABlk → Nat → Prop} (hR : ∀ e m h n, R e m h n → R' e m h n) (e : Ev z c m h n R) : Ev z c m h n R' := by
 obtain ⟨hm, k, x, h', n', e, q⟩ := e
 exact ⟨hm, k, x, h', n', e, hR _ _ _ _ q⟩
end
end Go.Am
