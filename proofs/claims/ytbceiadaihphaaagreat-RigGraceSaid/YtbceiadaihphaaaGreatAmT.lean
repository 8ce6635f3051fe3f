/-
  The abstract machine: calls, rounds, operations, regions in the order of their text.
-/
import Derived.Test.YtbceiadaihphaaaGreatAmS
set_option linter.unusedSimpArgs false
set_option linter.unusedVariables false
namespace Go.Am
open Go.RowKit
section
variable {P : Program} {O : Over} {ev : EvT} {Γ : Emb} {W w : World}
theorem bnd_ok {α β : Type} {r : Res α} {k : α → HS → Res β} {b : β} {s' : HS} (h : bnd r k = .ok b s') : ∃ a s, r = .ok a s ∧ k a s = .ok b s' := by
 unfold bnd at h
 split at h
 ·exact ⟨_, _, rfl, h⟩
 ·simp at h
theorem tm_init {args args' : List Value} (ha : VRels Γ args args') (k : Nat) : TmRel Γ ⟨args.length + (k - args.length), PT.ofList .leaf 0 args, []⟩ ((⟨args'⟩ : Array Value) ++ Array.replicate (k - (⟨args'⟩ : Array Value).size) undef) := by
 have hlen := ha.length
 refine ⟨by simp [hlen], fun i => ?_⟩
 show VRel Γ (match (PT.ofList .leaf 0 args).get i with | some v => v | none => .tuple ⟨[]⟩) _
 rw [PT.get_ofList_leaf, Array.getD_eq_getD_getElem?]
 by_cases hi : i < args.length
 ·obtain ⟨v, hv⟩ : ∃ v, args[i]? = some v := ⟨args[i], by simp [hi]⟩
  obtain ⟨v', hv', hr⟩ := ha.get hv
  rw [hv, Array.getElem?_append_left (by simp [hlen]; exact hi)]
  have : (⟨args'⟩ : Array Value)[i]? = some v' := by simpa using hv'
  rw [this]
  exact hr
 ·rw [List.getElem?_eq_none (by omega)]
  rw [Array.getElem?_append_right (by simp [hlen]; omega)]
  have : (Array.replicate (k - (⟨args'⟩ : Array Value).size) undef)[i - (⟨args'⟩ : Array Value).size]?.getD undef = undef := by
   rw [Array.getElem?_replicate]; split <;> rfl
  rw [this]
  exact .tuple _ _ .nil
theorem body_sound (hev : SoundE P ev) (hlo : LocE ev) {lim : Nat} {f : FuncId} {args args' : List Value} {s s' : HS} {v : Value} {H : PT ABlk} (e : bodyA P ev lim f args s = .ok v s') (hl : lim ≤ s.next) (hw : Wf s)
  (hS : SRel Γ W H w) (hx : Ext s.heap H) (ha : VRels Γ args args') (hf : Free Γ s.next s'.next) (r : Option Nat) :
  CallsIn (Fw r) 0 P f ⟨args'⟩ w fun e w' => ∃ Γ' v' H', e = .returned v' ∧ Ex Γ Γ' lim s s' W H H' w' ∧ VRel Γ' v v' := by
 unfold bodyA at e
 cases hfn : P.funcs[f]? with
 | none => simp [hfn] at e
 | some fn =>
  simp only [hfn] at e
  cases hb : fn.body with
  | none => simp [hb] at e
  | some c =>
   simp only [hb] at e
   obtain ⟨x, s₁, e₁, e₂⟩ := bnd_ok e
   obtain ⟨hn₁, hw₁⟩ := loc_of (hlo _ _ _ _) e₁ hl hw
   have hn₂ := (loc_of (loc_after (P := P) (lim := lim) _ _) e₂ (Nat.le_trans hl hn₁) hw₁).1
   have key : CallsIn Fence.wide 0 P f ⟨args'⟩ w fun e w' => ∃ Γ' v' H', e = .returned v' ∧ Ex Γ Γ' lim s s' W H H' w' ∧ VRel Γ' v v' := by
    refine callsIn_of_wp_marks hfn hb trivial ?_
    refine hev none lim c _ s x s₁ e₁ hl hw Γ W w { tmps := (⟨args'⟩ : Array Value) ++ Array.replicate (fn.ntmps - (⟨args'⟩ : Array Value).size) undef, defers := [] } none H hS hx ⟨tm_init ha _, .nil⟩ .no (hf.sub hn₂) _ ?_
    intro Γ' w' a' H₁ hex hfr
    obtain ⟨H₂, e₂, hx₂, hk₂, _, _, hwr₂⟩ := lift_loc (loc_after (P := P) (lim := lim) _ _) e₂ (Nat.le_trans hl hn₁) hw₁ hex.sub
    unfold afterA at e₂
    have fin : bnd (takeDfs lim x.2.dfs ⟨H₁, s₁.next, s₁.rd, s₁.wr⟩) (fun _ s => bnd (resultsA P lim x.2 fn.results.toList s) fun l s => .ok (oneOf l) s) = .ok v ⟨H₂, s'.next, s'.rd, s'.wr⟩ →
      LeavesInM Fence.wide 0 P fn a'.tmps (fun e w' => ∃ Γ' v' H', e = .returned v' ∧ Ex Γ Γ' lim s s' W H H' w' ∧ VRel Γ' v v') a'.defers .returning w' := by
     intro e₃
     obtain ⟨_, s₂, e₄, e₅⟩ := bnd_ok e₃
     obtain ⟨l, s₃, e₆, e₇⟩ := bnd_ok e₅
     simp only [Res.ok.injEq] at e₇
     obtain ⟨rfl, rfl⟩ := e₇
     obtain ⟨g1, g2⟩ := leaves_of (P := P) (fn := fn) (R := fun e w' => ∃ Γ' v' H', e = .returned v' ∧ Ex Γ Γ' lim s s' W H H' w' ∧ VRel Γ' (oneOf l) v') x.2.dfs a'.defers ⟨H₁, s₁.next, s₁.rd, s₁.wr⟩ s₂ _ l w' hfr.tm hfr.df hex.rel e₄ e₆
     have g1 : s'.next = s₁.next := g1
     refine g2 fun w₂ v' hS₂ hv => ⟨Γ', v', H₂, rfl, hex.trans ⟨.refl _, hS₂, fun i hi => rfl, hx₂, hk₂, by omega, hwr₂⟩, hv⟩
    cases hx : x.1 with
    | exit id => simp [hx] at e₂
    | normal => simp only [hx] at e₂; exact fin e₂
    | ret => simp only [hx] at e₂; exact fin e₂
   exact key
def SoundO (P : Program) (O : Over) : Prop :=
 ∀ f args m, O f args = some m → ∀ (Γ : Emb) (W w : World) (h : PT ABlk) (n lim : Nat) (rd wr : List Nat) (args' : List Value) (v : Value) (s' : HS), VRels Γ args args' → SRel Γ W h w → m.run lim ⟨h, n, rd, wr⟩ = .ok v s' → Free Γ n s'.next →
  CallsIn Fence.wide 0 P f ⟨args'⟩ w fun e w' => ∃ Γ' v', e = .returned v' ∧ Γ.le Γ' ∧ SRel Γ' W s'.heap w' ∧ (∀ i, ¬ (n ≤ i ∧ i < s'.next) → Γ'.blk i = Γ.blk i) ∧ VRel Γ' v v'
theorem call_sound (hO : SoundO P O) (hev : SoundE P ev) (hlo : LocE ev) {lim : Nat} {f : FuncId} {args args' : List Value} {s s' : HS} {v : Value} {H : PT ABlk} (e : callA P O ev lim f args s = .ok v s') (hl : lim ≤ s.next) (hw : Wf s)
  (hS : SRel Γ W H w) (hx : Ext s.heap H) (ha : VRels Γ args args') (hf : Free Γ s.next s'.next) (r : Option Nat) :
  CallsIn (Fw r) 0 P f ⟨args'⟩ w fun e w' => ∃ Γ' v' H', e = .returned v' ∧ Ex Γ Γ' lim s s' W H H' w' ∧ VRel Γ' v v' := by
 unfold callA at e
 cases hO' : O f args with
 | none => simp only [hO'] at e; exact body_sound hev hlo e hl hw hS hx ha hf r
 | some m =>
  simp only [hO'] at e
  obtain ⟨H', e', h6, h7, h8, _, h9⟩ := lift_loc (loc_ap m) e hl hw hx
  have := hO f args m hO' Γ W w H s.next lim s.rd s.wr args' v _ ha hS e' hf
  have key : CallsIn Fence.wide 0 P f ⟨args'⟩ w fun e w' => ∃ Γ' v' H', e = .returned v' ∧ Ex Γ Γ' lim s s' W H H' w' ∧ VRel Γ' v v' := by
   refine CallsIn.mono this ?_
   rintro en w' ⟨Γ', v', rfl, h2, h3, h4, h5⟩
   exact ⟨Γ', v', H', rfl, ⟨h2, h3, h4, h6, h7, h8, h9⟩, h5⟩
  exact key
theorem loop_block {h : PT ABlk} (hS : SRel Γ W h w) {l l' : Nat} (hl : Γ.blk l = some (l', 0)) {st : LoopState} {pend : Option Code} {tm : Tm} {ps : List Tmp} {as bd : Code} (hb : h.get l = some (.loop st pend tm ps as bd)) :
  ∃ L : Loop, w.heap[l']? = some (.loop L) ∧ L.state = st ∧ L.pending = pend ∧ TmRel Γ tm L.tmps ∧ L.params.toList = ps ∧ L.assign = as ∧ L.body = bd := by
 obtain ⟨b, s, e, ⟨rfl, L, hL⟩, _⟩ := hS.live _ _ hb
 rw [hl] at e
 obtain ⟨rfl, _⟩ : l' = b ∧ 0 = 0 := by simpa using e
 exact ⟨L, hL⟩
theorem loop_set {h : PT ABlk} (hS : SRel Γ W h w) {l l' : Nat} (hl : Γ.blk l = some (l', 0)) {st st' : LoopState} {pend pend' : Option Code} {tm : Tm} {ps : List Tmp} {as bd : Code} (hb : h.get l = some (.loop st pend tm ps as bd))
  {L : Loop} (hL : w.heap[l']? = some (.loop L)) (h4 : TmRel Γ tm L.tmps) (h5 : L.params.toList = ps) (h6 : L.assign = as) (h7 : L.body = bd) :
  SRel Γ W (h.set l (some (.loop st' pend' tm ps as bd))) { w with heap := w.heap.setIfInBounds l' (.loop { L with state := st', pending := pend' }) } :=
 hS.setOther hb hl trivial trivial (fun w' ⟨_, L, q, _⟩ => ⟨_, q, rfl⟩) rfl (fun w' q => ⟨rfl, _, q, rfl, rfl, h4, h5, h6, h7⟩)
theorem begin_sim {l l' : Nat} (hl : Γ.blk l = some (l', 0)) : Sim P Γ (loopBegin l) (Instr.beginRound l') (fun _ _ _ => True) := by
 intro W h n w hS
 unfold loopBegin
 refine SimAt.get fun B hB => ?_
 split
 ·rename_i pend tm ps as bd
  obtain ⟨L, h1, h2, h3, h4, h5, h6, h7⟩ := loop_block hS hl hB
  have hS' := loop_set (st' := .busy) (pend' := pend) hS hl hB h1 h4 h5 h6 h7
  refine SimAt.set (e' := pure ()) ?_ (SimAt.ok hS' rfl trivial)
  have hgo : (Instr.getLoop l').run P w = .ok L w := by simp [Instr.getLoop, getObj, Sem.run, h1]
  have hso : ∀ o, (setObj l' o).run P w = .ok () { w with heap := w.heap.setIfInBounds l' o } := fun o => by simp [setObj, Sem.run, h1]
  have hLp : ({ L with state := LoopState.busy, pending := pend } : Loop) = { L with state := .busy } := by rw [← h3]
  rw [hLp]
  simp [Instr.beginRound, hgo, hso, h2]
 ·exact SimAt.fail
theorem end_sim {l l' : Nat} (hl : Γ.blk l = some (l', 0)) (jump : Option Code) : Sim P Γ (loopEnd l jump) (Instr.endRound l' jump) VRel := by
 intro W h n w hS
 unfold loopEnd
 refine SimAt.get fun B hB => ?_
 split
 ·rename_i st pend tm ps as bd
  obtain ⟨L, h1, h2, h3, h4, h5, h6, h7⟩ := loop_block hS hl hB
  have hS' := loop_set (st' := cond jump.isNone .ready .done) (pend' := jump) hS hl hB h1 h4 h5 h6 h7
  refine SimAt.set (e' := pure (.bool jump.isNone)) ?_ (SimAt.ok hS' rfl (.bool _))
  have hgo : (Instr.getLoop l').run P w = .ok L w := by simp [Instr.getLoop, getObj, Sem.run, h1]
  have hso : ∀ o, (setObj l' o).run P w = .ok () { w with heap := w.heap.setIfInBounds l' o } := fun o => by simp [setObj, Sem.run, h1]
  simp only [Instr.endRound, Sem.run_bind, hgo, Result.andThen_ok, hso, Sem.run_pure]
  cases jump <;> rfl
 ·exact SimAt.fail
theorem exit_sim {l l' : Nat} (hl : Γ.blk l = some (l', 0)) : Sim P Γ (loopExit l) (Instr.endLoop l') (fun _ x j => j = exitCode x) := by
 intro W h n w hS
 unfold loopExit
 refine SimAt.get fun B hB => ?_
 cases B with
 | loop st pend tm ps as bd =>
  obtain ⟨L, h1, h2, h3, h4, h5, h6, h7⟩ := loop_block hS hl hB
  have hgo : (Instr.getLoop l').run P w = .ok L w := by simp [Instr.getLoop, getObj, Sem.run, h1]
  have hso : ∀ o, (setObj l' o).run P w = .ok () { w with heap := w.heap.setIfInBounds l' o } := fun o => by simp [setObj, Sem.run, h1]
  have hLp : ({ L with state := LoopState.exhausted, pending := pend } : Loop) = { L with state := .exhausted } := by rw [← h3]
  have hS' := loop_set (st' := .exhausted) (pend' := pend) hS hl hB h1 h4 h5 h6 h7
  rw [hLp] at hS'
  have hrun : st ≠ .busy → (Instr.endLoop l').run P w = .ok pend { w with heap := w.heap.setIfInBounds l' (.loop { L with state := .exhausted }) } := by
   intro hst
   have : (L.state == LoopState.busy) = false := by rw [h2]; cases st <;> first | rfl | exact absurd rfl hst
   simp only [Instr.endLoop, Sem.run_bind, hgo, Result.andThen_ok, this, Bool.false_eq_true, if_false, hso, Sem.run_pure, h3]
  have fin : st ≠ .busy → SimAt P Γ W h n w (match pend with
    | none => .set l (.loop .exhausted none tm ps as bd) (.pure .normal)
    | some .ret => .set l (.loop .exhausted (some .ret) tm ps as bd) (.pure .ret)
    | some (.exit id) => .set l (.loop .exhausted (some (.exit id)) tm ps as bd) (.pure (.exit id))
    | some _ => .fail "range jump") (Instr.endLoop l') (fun _ x j => j = exitCode x) := by
   intro hst
   have hrun := hrun hst
   split
   ·exact SimAt.set (e' := pure none) hrun (SimAt.ok hS' rfl rfl)
   ·exact SimAt.set (e' := pure (some .ret)) hrun (SimAt.ok hS' rfl rfl)
   ·exact SimAt.set (e' := pure (some (.exit _))) hrun (SimAt.ok hS' rfl rfl)
   ·exact SimAt.fail
  cases st with
  | busy => exact SimAt.fail
  | ready => exact fin (by simp)
  | done => exact fin (by simp)
  | exhausted => exact fin (by simp)
 | _ => exact SimAt.fail
theorem round_sound (hev : SoundE P ev) (hlo : LocE ev) {lim : Nat} {l l' : Nat} {m : Tm} {fn : FuncId} {tmps : Array Value} {as bd : Code} {s s' : HS} {v : Value} {H : PT ABlk} (e : roundA ev lim l m as bd s = .ok v s') (hl : lim ≤ s.next) (hw : Wf s)
  (hS : SRel Γ W H w) (hx : Ext s.heap H) (hb : Γ.blk l = some (l', 0)) (ht : TmRel Γ m tmps) (hd : m.dfs = []) (hf : Free Γ s.next s'.next) (r : Option Nat) :
  RoundIn (Fw r) 0 P l' fn tmps as bd w fun e w' => ∃ Γ' v' H', e = .returned v' ∧ Ex Γ Γ' lim s s' W H H' w' ∧ VRel Γ' v v' := by
 unfold roundA at e
 obtain ⟨x, s₁, e₁, e₂⟩ := bnd_ok e
 obtain ⟨hn₁, hw₁⟩ := loc_of (hlo _ _ _ _) e₁ hl hw
 cases hx1 : x.1 with
 | exit id => simp [hx1] at e₂
 | ret => simp [hx1] at e₂
 | normal =>
  simp only [hx1] at e₂
  obtain ⟨_, s₂, e₃, e₄⟩ := bnd_ok e₂
  obtain ⟨hn₂, hw₂⟩ := loc_of (loc_ap _) e₃ (Nat.le_trans hl hn₁) hw₁
  obtain ⟨y, s₃, e₅, e₆⟩ := bnd_ok e₄
  obtain ⟨hn₃, hw₃⟩ := loc_of (hlo _ _ _ _) e₅ (by omega) hw₂
  have hn₄ := (loc_of (loc_ap _) e₆ (by omega) hw₃).1
  refine roundIn_of_wpIn trivial ?_
  refine hev (some l) lim as m s x s₁ e₁ hl hw Γ W w { tmps, defers := [] } (some l') H hS hx ⟨ht, by rw [hd]; exact .nil⟩ (.yes _ _ hb) (hf.sub (by omega)) _ ?_
  intro Γ₁ w₁ a₁ H₁ hex₁ hfr₁
  rw [hx1]
  show ∃ w₂, _ ∧ _
  have hb₁ := hex₁.le.blk _ _ hb
  obtain ⟨Γ₂, w₂, _, H₂, hrun₂, hex₂, _⟩ := sim_run (begin_sim (P := P) hb₁) e₃ (by omega) hw₁ hex₁.rel hex₁.sub (hf.after hex₁ |>.sub (by omega))
  refine ⟨w₂, hrun₂, ?_⟩
  have hex₁₂ := hex₁.trans hex₂
  refine hev (some l) lim bd x.2 s₂ y s₃ e₅ (by omega) hw₂ Γ₂ W w₂ a₁ (some l') H₂ hex₂.rel hex₂.sub (hfr₁.mono hex₂.le) (.yes _ _ (hex₂.le.blk _ _ hb₁)) (hf.after hex₁₂ |>.sub (by omega)) _ ?_
  intro Γ₃ w₃ a₃ H₃ hex₃ hfr₃
  have hex₁₃ := hex₁₂.trans hex₃
  have hb₃ := hex₁₃.le.blk _ _ hb
  obtain ⟨Γ₄, w₄, v', H₄, hrun₄, hex₄, hv⟩ := sim_run (end_sim (P := P) hb₃ (exitCode y.1)) e₆ (by omega) hw₃ hex₃.rel hex₃.sub (hf.after hex₁₃)
  have fin : ∃ v w', (Instr.endRound l' (exitCode y.1)).run P w₃ = .ok v w' ∧ (fun e w' => ∃ Γ' v' H', e = Ending.returned v' ∧ Ex Γ Γ' lim s s' W H H' w' ∧ VRel Γ' _ v') (.returned v) w' :=
   ⟨v', w₄, hrun₄, Γ₄, v', H₄, rfl, hex₁₃.trans hex₄, hv⟩
  cases hy : y.1 with
  | normal => rw [hy] at fin; exact fin
  | ret => rw [hy] at fin; exact fin
  | exit id => rw [hy] at fin; exact fin
theorem semAt_of {o : Oper} (h : ∀ c, o.op ≠ .defer c) (r : Option Nat) (ρ : Operand → Value) : o.semAt r ρ = execOp ρ o := Oper.semAt_eq r ρ o h
theorem aOp_defer {ρ : Operand → Value} {o : Oper} {c : Call} (h : o.op = .defer c) : aOp P ρ o = .fail "operation" := by
 unfold aOp; rw [h]
theorem val_sound (hO : SoundO P O) (hev : SoundE P ev) (hlo : LocE ev) {lim : Nat} {ρ : Operand → Value} {o : Oper} {a : Act} {s s' : HS} {v : Value} {H : PT ABlk} (e : valA P O ev lim ρ o s = .ok v s') (hl : lim ≤ s.next) (hw : Wf s)
  (hS : SRel Γ W H w) (hx : Ext s.heap H) (hρ : ∀ x, x ∈ o.op.operands → opFlat x = true → VRel Γ (ρ x) (a.eval x)) (hf : Free Γ s.next s'.next) (r : Option Nat) {next : Act → World → Prop} {Q : Exit → Act → World → Prop}
  (hk : ∀ Γ' w' v' H', Ex Γ Γ' lim s s' W H H' w' → VRel Γ' v v' → next (a.put o.dst v') w') : o.wpIn (Fw r) 0 P a w next Q := by
 unfold valA at e
 cases hfl : o.op.operands.toList.all opFlat with
 | false => simp [hfl] at e
 | true =>
  simp only [hfl, cond_true] at e
  obtain ⟨x, s₁, e₁, e₂⟩ := bnd_ok e
  obtain ⟨hn₁, hw₁⟩ := loc_of (loc_ap _) e₁ hl hw
  have hn₂ := (loc_of (loc_next (P := P) (lim := lim) hlo x) e₂ (Nat.le_trans hl hn₁) hw₁).1
  have hρ' : ∀ x ∈ o.op.operands, VRel Γ (ρ x) (a.eval x) := fun x hx => hρ x hx (List.all_eq_true.1 hfl x (by simpa using hx))
  obtain ⟨Γ₁, w₁, nx, H₁, hrun, hex₁, hnx⟩ := sim_run (aOp_sim (P := P) hρ') e₁ hl hw hS hx (hf.sub hn₂)
  have hnd : ∀ c, o.op ≠ .defer c := fun c hc => by rw [aOp_defer hc] at e₁; simp [AP.run] at e₁
  refine ⟨fun _ _ => trivial, ?_⟩
  rw [semAt_of hnd, hrun]
  have hf₁ := hf.after hex₁
  cases hnx with
  | value _ v' hv =>
   simp only [nextA, Res.ok.injEq] at e₂
   obtain ⟨rfl, rfl⟩ := e₂
   exact hk Γ₁ w₁ v' H₁ hex₁ hv
  | skip =>
   simp only [nextA, Res.ok.injEq] at e₂
   obtain ⟨rfl, rfl⟩ := e₂
   exact hk Γ₁ w₁ undef H₁ hex₁ (.tuple _ _ .nil)
  | enter f args args' ha =>
   refine ⟨fun h => by simp [Fw] at h, ?_⟩
   refine CallsIn.mono (call_sound hO hev hlo e₂ (by omega) hw₁ hex₁.rel hex₁.sub ha hf₁ r) ?_
   rintro en w₂ ⟨Γ₂, v', H₂, rfl, hex₂, hv⟩
   exact hk Γ₂ w₂ v' H₂ (hex₁.trans hex₂) hv
  | round l l' m fn tmps as bd hb ht hd =>
   refine ⟨fun h => by simp [Fw] at h, ?_⟩
   refine RoundIn.mono (round_sound hev hlo e₂ (by omega) hw₁ hex₁.rel hex₁.sub hb ht hd hf₁ r) ?_
   rintro en w₂ ⟨Γ₂, v', H₂, rfl, hex₂, hv⟩
   exact hk Γ₂ w₂ v' H₂ (hex₁.trans hex₂) hv
theorem yielded_rel {ops : List Oper} {m : Tm} {tmps : Array Value} (hm : TmRel Γ m tmps) (j : Nat) : yielded ⟨ops⟩ tmps j = yieldedA ops m j := by
 unfold yielded yieldedA
 have : (⟨ops⟩ : Array Oper)[j]? = ops[j]? := by simp
 rw [this]
 cases ops[j]? with
 | none => rfl
 | some o =>
  cases hd : o.dst with
  | none => simp [hd]
  | some d =>
   simp only [Option.bind_some, hd]
   have hr : VRel Γ (m.get d) (tmps.getD d undef) := hm.get d
   rw [Array.getD_eq_getD_getElem?] at hr
   generalize m.get d = u at hr
   cases ht : tmps[d]? with
   | none =>
    rw [ht] at hr
    simp only [Option.getD_none, undef] at hr
    cases hr
    rfl
   | some t =>
    rw [ht] at hr
    simp only [Option.getD_some] at hr
    cases hr <;> rfl
theorem wanted_rel {ops : List Oper} {m : Tm} {tmps : Array Value} (hm : TmRel Γ m tmps) (o : Oper) : Region.wanted o (yielded ⟨ops⟩ tmps) = wantedA ops m o := by
 unfold Region.wanted wantedA
 cases o.guard with
 | none => rfl
 | some g =>
  obtain ⟨j, want⟩ := g
  dsimp only
  rw [yielded_rel hm j]
  cases yieldedA ops m j with
  | none => rfl
  | some b => cases b <;> cases want <;> rfl
theorem op_sound (hO : SoundO P O) (hev : SoundE P ev) (hlo : LocE ev) {lim : Nat} {ops : List Oper} {i : Nat} {o : Oper} (ho : ops[i]? = some o) {m m' : Tm} {a : Act} {s s' : HS} {H : PT ABlk} (e : opA P O ev lim ops o m s = .ok m' s') (hl : lim ≤ s.next) (hw : Wf s)
  (hS : SRel Γ W H w) (hx : Ext s.heap H) (hm : FrR Γ m a) (hf : Free Γ s.next s'.next) (r : Option Nat) {K : Act → World → Prop} {Q : Exit → Act → World → Prop}
  (hk : ∀ Γ' w' a' H', Ex Γ Γ' lim s s' W H H' w' → FrR Γ' m' a' → K a' w') : wpOpIn (Fw r) 0 P ⟨ops⟩ Q i K a w := by
 unfold opA at e
 obtain ⟨v, s₁, e₁, e₂⟩ := bnd_ok e
 have hput : m.put o.dst v = some m' ∧ s₁ = s' := by
  unfold putA at e₂
  cases hp : m.put o.dst v with
  | none => simp [hp] at e₂
  | some m₂ =>
   simp only [hp, Res.ok.injEq] at e₂
   exact ⟨by rw [e₂.1], e₂.2⟩
 obtain ⟨hp, rfl⟩ := hput
 have ho' : (⟨ops⟩ : Array Oper)[i]? = some o := by simpa using ho
 unfold wpOpIn
 simp only [ho']
 rw [wanted_rel hm.tm o]
 cases hwt : wantedA ops m o with
 | true =>
  simp only [hwt, cond_true] at e₁
  simp only [if_true]
  exact val_sound hO hev hlo e₁ hl hw hS hx (fun x _ hx => eval_rel hm.tm x hx) hf r fun Γ' w' v' H' hex hv => hk Γ' w' _ H' hex ((hm.mono hex.le).put hv hp)
 | false =>
  simp only [hwt, cond_false, Res.ok.injEq] at e₁
  obtain ⟨rfl, rfl⟩ := e₁
  simp only [Bool.false_eq_true, if_false]
  exact ⟨fun _ _ => trivial, hk Γ w _ H (Ex.refl hS hx) (hm.put (.tuple _ _ .nil) hp)⟩
theorem ops_sound (hO : SoundO P O) (hev : SoundE P ev) (hlo : LocE ev) {lim : Nat} {ops : List Oper} {r : Option Nat} {Q : Exit → Act → World → Prop} : ∀ (rest : List Oper) (k : Nat) (Γ : Emb) (w : World) (m m' : Tm) (a : Act) (s s' : HS) (H : PT ABlk), ops.drop k = rest →
  opsA P O ev lim ops rest m s = .ok m' s' → lim ≤ s.next → Wf s → SRel Γ W H w → Ext s.heap H → FrR Γ m a → Free Γ s.next s'.next →
  (∀ Γ' w' a' H', Ex Γ Γ' lim s s' W H H' w' → FrR Γ' m' a' → Q .normal a' w') → wpOpsIn (Fw r) 0 P ⟨ops⟩ Q (List.range' k rest.length) a w
 | [], k, Γ, w, m, m', a, s, s', H, hd, e, hl, hw, hS, hx, hm, hf, hk => by
  simp only [opsA, Res.ok.injEq] at e
  obtain ⟨rfl, rfl⟩ := e
  exact hk Γ w a H (Ex.refl hS hx) hm
 | o :: rest, k, Γ, w, m, m', a, s, s', H, hd, e, hl, hw, hS, hx, hm, hf, hk => by
  simp only [opsA] at e
  obtain ⟨m₁, s₁, e₁, e₂⟩ := bnd_ok e
  obtain ⟨hn₁, hw₁⟩ := loc_of (loc_op (P := P) (lim := lim) hlo ops o m) e₁ hl hw
  have hn₂ := (loc_of (loc_ops (P := P) (lim := lim) hlo ops rest m₁) e₂ (Nat.le_trans hl hn₁) hw₁).1
  have ho : ops[k]? = some o := by
   have := congrArg (·[0]?) hd
   simpa using this
  have hd' : ops.drop (k + 1) = rest := by
   have := congrArg (List.drop 1) hd
   simpa [Nat.add_comm] using this
  rw [List.length_cons, List.range'_succ, wpOpsIn_cons]
  refine op_sound hO hev hlo ho e₁ hl hw hS hx hm (hf.sub hn₂) r fun Γ₁ w₁ a₁ H₁ hex₁ hm₁ => ?_
  exact ops_sound hO hev hlo rest (k + 1) Γ₁ w₁ m₁ m' a₁ s₁ s' H₁ hd' e₂ (by omega) hw₁ hex₁.rel hex₁.sub hm₁ (hf.after hex₁) fun Γ₂ w₂ a₂ H₂ hex₂ hm₂ => hk Γ₂ w₂ a₂ H₂ (hex₁.trans hex₂) hm₂
end
end Go.Am
