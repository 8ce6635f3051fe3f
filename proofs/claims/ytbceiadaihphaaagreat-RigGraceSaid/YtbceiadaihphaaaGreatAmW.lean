/-
  The abstract machine: ranges over functions, code, and what a closed law comes to.
-/
import Derived.Test.YtbceiadaihphaaaGreatAmV
import Derived.RangeFuncNested
import Derived.RowKit3
import Derived.Scope
import Derived.ChangeSame
set_option linter.unusedSimpArgs false
set_option linter.unusedVariables false
namespace Go.Am
open Go.RowKit Go.ChangeShapes Go.WideShapes
section
variable {P : Program} {O : Over} {ev : EvT} {Γ : Emb} {W w : World} {H : PT ABlk}
theorem enter_sim {ro r : Option Nat} {m : Tm} {tmps : Array Value} {ds : List Deferred} {ps : Array Tmp} {assign body : Code} (fn : FuncId) (hro : RoR Γ ro r) (ht : TmRel Γ m tmps) (hd : DfR Γ m.dfs ds) :
  Sim P Γ (enterA ro m ps.toList assign body) (Instr.enterLoop fn tmps ps assign body r) (fun Γ' x y => Γ'.blk x.1 = some (y.1, 0) ∧ DfR Γ' x.2 (y.2 ++ ds)) := by
 intro W h n w hS
 unfold enterA
 cases hro with
 | yes l₀ l₀' hl =>
  refine SimAt.get fun B hB => ?_
  split
  ·rename_i st pend tm ps' as bd
   obtain ⟨L, h1, _⟩ := loop_block hS hl hB
   refine SimAt.new fun hn => ?_
   obtain ⟨Γ', hst, hb, hS'⟩ := hS.allocOther hn (.loop { state := .ready, pending := none, fn, tmps, params := ps, assign, body, defers := L.defers }) (.loop .ready none m ps.toList assign body) rfl
    (fun Γ' w' hle h1 => ⟨rfl, _, h1, rfl, rfl, ht.mono hle, rfl, rfl, rfl⟩)
   exact ⟨Γ', _, pure (w.heap.size, []), hst, run_enterLoop_inner h1 _ _ _ _ _, SimAt.ok hS' rfl ⟨hb, hd.mono hst.le⟩⟩
  ·exact SimAt.fail
 | no =>
  refine SimAt.new fun hn => ?_
  obtain ⟨Γ₁, hst, hb, hS₁⟩ := hS.allocOther hn (.deferred (some [])) .deferred rfl (fun Γ' w' _ h1 => ⟨rfl, h1⟩)
  have hsz : (w.alloc (.deferred (some []))).heap.size = w.heap.size + 1 := by simp
  refine ⟨Γ₁, w.alloc (.deferred (some [])), (do pure (← newObj (.loop { state := .ready, pending := none, fn, tmps, params := ps, assign, body, defers := w.heap.size }), [({ target := .collected w.heap.size, args := #[] } : Deferred)]) : Sem (Nat × List Deferred)), hst, ?_, ?_⟩
  ·rw [run_enterLoop_outer]
   simp only [Sem.run_bind, run_newObj_alloc, Result.andThen, Sem.run_pure, hsz]
  refine SimAt.new fun hn' => ?_
  obtain ⟨Γ₂, hst₂, hb₂, hS₂⟩ := hS₁.allocOther hn' (.loop { state := .ready, pending := none, fn, tmps, params := ps, assign, body, defers := w.heap.size }) (.loop .ready none m ps.toList assign body) rfl
   (fun Γ' w' hle h1 => ⟨rfl, _, h1, rfl, rfl, (ht.mono hst.le).mono hle, rfl, rfl, rfl⟩)
  exact ⟨Γ₂, _, pure (w.heap.size + 1, [{ target := .collected w.heap.size, args := #[] }]), hst₂,
   (by simp only [Sem.run_bind, run_newObj_alloc, Result.andThen, Sem.run_pure, hsz]),
   SimAt.ok hS₂ rfl ⟨by rw [hb₂]; simp, .cons _ _ _ _ (hst₂.le.blk _ _ hb) ((hd.mono hst.le).mono hst₂.le)⟩⟩
theorem callee_sim {x x' : Value} {l l' : Nat} (hl : Γ.blk l = some (l', 0)) (hx : VRel Γ x x') :
  (∃ fn' f' c', x' = .func fn' ⟨f'⟩ ⟨c'⟩ ∧ Sim P Γ (rangeCallee P x l) (invoke (.fn fn' ⟨c'⟩) ⟨f' ++ [.func (.yield l') ⟨[]⟩ ⟨[]⟩]⟩ >>= pure) (fun Γ fa nx => ∃ args', nx = .enter fa.1 ⟨args'⟩ ∧ VRels Γ fa.2 args')) ∨
   ∃ why, rangeCallee P x l = .fail why := by
 cases hx with
 | func fn fn' f f' c c' hf hc hp =>
  refine .inl ⟨fn', f', c', rfl, fun W h n w hS => ?_⟩
  unfold rangeCallee
  refine SimAt.bind (aInvoke_sim (P := P) hp hc (hf.append (.cons _ _ _ _ (.func _ _ _ _ _ _ .nil .nil (.yield _ _ hl)) .nil)) W h n w hS) ?_
  intro Γ' nx nx' hle hnx W h n w hS
  cases hnx with
  | enter f args args' ha => exact SimAt.ok hS rfl ⟨args', rfl, ha⟩
  | _ => exact SimAt.fail
 | _ => exact .inr ⟨_, rfl⟩
theorem range_sound (hO : SoundO P O) (hev : SoundE P ev) (hlo : LocE ev) {ro r : Option Nat} {lim : Nat} {g : Operand} {ps : Array Tmp} {assign body : Code} {m : Tm} {a : Act} {s s' : HS} {x : AExit × Tm} (e : rangeA P O ev ro lim g ps.toList assign body m s = .ok x s') (hl : lim ≤ s.next) (hw : Wf s)
  (hS : SRel Γ W H w) (hx : Ext s.heap H) (hm : FrR Γ m a) (hro : RoR Γ ro r) (hf : Free Γ s.next s'.next) {Q : Exit → Act → World → Prop}
  (hk : ∀ Γ' w' a' H', Ex Γ Γ' lim s s' W H H' w' → FrR Γ' x.2 a' → Q (exitOf x.1) a' w') : (Code.rangeFunc g ps assign body).wpIn (Fw r) 0 P Q a w := by
 unfold rangeA at e
 cases hg : opFlat g with
 | false => simp [hg] at e
 | true =>
  simp only [hg, cond_true] at e
  obtain ⟨ld, s₁, e₁, e⟩ := bnd_ok e
  obtain ⟨fa, s₂, e₂, e⟩ := bnd_ok e
  obtain ⟨v, s₃, e₃, e⟩ := bnd_ok e
  obtain ⟨y, s₄, e₄, e⟩ := bnd_ok e
  simp only [Res.ok.injEq] at e
  obtain ⟨rfl, rfl⟩ := e
  obtain ⟨hn₁, hw₁⟩ := loc_of (loc_ap _) e₁ hl hw
  obtain ⟨hn₂, hw₂⟩ := loc_of (loc_ap _) e₂ (by omega) hw₁
  obtain ⟨hn₃, hw₃⟩ := loc_of (loc_call hlo _ _) e₃ (by omega) hw₂
  obtain ⟨hn₄, _⟩ := loc_of (loc_ap _) e₄ (by omega) hw₃
  refine wpIn_rangeFunc ?_
  intro fn _
  obtain ⟨Γ₁, w₁, lm, H₁, hrun₁, hex₁, hb₁, hd₁⟩ := sim_run (enter_sim (P := P) (ps := ps) (assign := assign) (body := body) fn hro hm.tm hm.df) e₁ hl hw hS hx (hf.sub (by omega))
  have hvg : VRel Γ₁ (m.eval g) (a.eval g) := (eval_rel hm.tm g hg).mono hex₁.le
  rcases callee_sim (P := P) hb₁ hvg with ⟨fn', f', c', hfn', hsim⟩ | ⟨why, hfail⟩
  ·obtain ⟨Γ₂, w₂, nx, H₂, hrun₂, hex₂, args', rfl, ha⟩ := sim_run hsim e₂ (by omega) hw₁ hex₁.rel hex₁.sub (hf.after hex₁ |>.sub (by omega))
   have hex₁₂ := hex₁.trans hex₂
   have hinv : (invoke (.fn fn' ⟨c'⟩) ⟨f' ++ [.func (.yield lm.1) ⟨[]⟩ ⟨[]⟩]⟩).run P w₁ = .ok (.enter fa.1 ⟨args'⟩) w₂ := by
    rw [Sem.run_bind] at hrun₂
    cases hi : (invoke (.fn fn' ⟨c'⟩) ⟨f' ++ [.func (.yield lm.1) ⟨[]⟩ ⟨[]⟩]⟩).run P w₁ with
    | ok u w' => rw [hi] at hrun₂; simpa using hrun₂
    | halt u w' => rw [hi] at hrun₂; simp [Result.andThen] at hrun₂
   refine ⟨lm.1, lm.2, w₁, { target := .fn fn' ⟨c'⟩, args := ⟨f' ++ [.func (.yield lm.1) ⟨[]⟩ ⟨[]⟩]⟩ }, w₁, fa.1, ⟨args'⟩, w₂, hrun₁, ?_, fun _ _ => trivial, hinv, fun h => by simp [Fw] at h, ?_⟩
   ·simp only [resolve, hfn']
    have harr : ((⟨f'⟩ : Array Value) ++ (rangeCall g lm.1).args.map a.eval) = ⟨f' ++ [.func (.yield lm.1) ⟨[]⟩ ⟨[]⟩]⟩ := by
     apply Array.ext'; simp [Act.eval]
    simp only [Deferred.ofValue, Sem.run_pure]
    rw [harr]
   ·refine CallsIn.mono (call_sound hO hev hlo e₃ (by omega) hw₂ hex₂.rel hex₂.sub ha (hf.after hex₁₂ |>.sub (by omega)) r) ?_
    rintro en w₃ ⟨Γ₃, v', H₃, rfl, hex₃, _⟩
    have hex₁₃ := hex₁₂.trans hex₃
    have hb₃ := (hex₂.le.trans hex₃.le).blk _ _ hb₁
    obtain ⟨Γ₄, w₄, j, H₄, hrun₄, hex₄, rfl⟩ := sim_run (exit_sim (P := P) hb₃) e₄ (by omega) hw₃ hex₃.rel hex₃.sub (hf.after hex₁₃)
    have hexA := hex₁₃.trans hex₄
    have hfr : FrR Γ₄ { m with dfs := ld.2 } { a with defers := lm.2 ++ a.defers } := by
     have hle : Γ₁.le Γ₄ := (hex₂.le.trans hex₃.le).trans hex₄.le
     exact ⟨⟨hm.tm.size, (hm.tm.mono hexA.le).get⟩, hd₁.mono hle⟩
    have q := hk Γ₄ w₄ { a with defers := lm.2 ++ a.defers } H₄ hexA hfr
    refine ⟨exitCode y, w₄, hrun₄, ?_⟩
    cases y with
    | normal => exact q
    | ret => exact wpIn_ret q
    | exit id => exact wpIn_exit q
  ·rw [hfail] at e₂; simp [AP.run] at e₂
theorem wpIn_scope {F : Fence} {n : Nat} {Q : Exit → Act → World → Prop} {a : Act} {c : Code} (h : c.wpIn F n P (Exit.noGoto Q) a w) : (Code.scope c).wpIn F n P Q a w := by
 intro b k cs hro hb hr
 have h1 : step P (lone (b.atR a (.code (.scope c) :: k)) cs w) = .next (lone (b.atR a (.code c :: .inScope c :: k)) cs w) := step_lone_go (by simp [stepG, stepG.exec, Frame.atR])
 have h2 : ∀ a w, step P (lone (b.atR a (.inScope c :: k)) cs w) = .next (lone (b.atR a k) cs w) := fun a w => step_lone_go (by simp [stepG, stepG.exec, Frame.atR])
 have h0 : (lone (b.atR a (.code (.scope c) :: k)) cs w).fenced P F := fenced_calm hb hr rfl
 obtain ⟨e, a₁, w₁, hq, harr⟩ := h b (.inScope c :: k) cs hro hb hr
 have hx : ∀ id, exitTo id (.inScope c :: k) = exitTo id k := fun id => by simp [exitTo]
 cases e with
 | normal => exact ⟨.normal, a₁, w₁, hq, .head h0 h1 (StepsIn.trans harr (.one (fenced_calm hb hr rfl) (h2 _ _)))⟩
 | exit id =>
  exact ⟨.exit id, a₁, w₁, hq, fun k' hk => .head h0 h1 (harr.1 k' (by rw [hx]; exact hk)),
   fun hr' hk => let ⟨k₁, q1, q2⟩ := harr.2 hr' (by rw [hx]; exact hk); ⟨k₁, q1, .head h0 h1 q2⟩⟩
 | goto l => exact hq.elim
 | ret => exact ⟨_, a₁, w₁, hq, .of_steps (.one h0 h1) harr⟩
 | panic ch => exact ⟨_, a₁, w₁, hq, .of_steps (.one h0 h1) harr⟩
 | outgrown => exact ⟨_, a₁, w₁, hq, .of_steps (.one h0 h1) harr⟩
def SoundL (P : Program) (O : Over) (k : Nat) : Prop :=
 ∀ ro lim c m s x s', evC P O k ro lim (.loop c) m s = .ok x s' → lim ≤ s.next → Wf s → ∀ Γ W w a r H, SRel Γ W H w → Ext s.heap H → FrR Γ m a → RoR Γ ro r → Free Γ s.next s'.next →
  ∀ Q : Exit → Act → World → Prop, (∀ Γ' w' a' H', Ex Γ Γ' lim s s' W H H' w' → FrR Γ' x.2 a' → Q (exitOf x.1) a' w') → Code.roundsIn (Fw r) 0 P c Q k a w
theorem seq_sound (hev : SoundE P ev) (hlo : LocE ev) {ev₂ : EvT} (hlo₂ : LocE ev₂) {ro : Option Nat} {lim : Nat} {c d : Code} {m : Tm} {s s' : HS} {x : AExit × Tm}
  (e : bnd (ev ro lim c m s) (fun x s => match x.1 with | .normal => ev₂ ro lim d x.2 s | _ => .ok x s) = .ok x s') (hl : lim ≤ s.next) (hw : Wf s) {a : Act} {r : Option Nat}
  (hS : SRel Γ W H w) (hx : Ext s.heap H) (hm : FrR Γ m a) (hro : RoR Γ ro r) (hf : Free Γ s.next s'.next) {Q : Exit → Act → World → Prop} {K : Act → World → Prop}
  (hK : ∀ x₁ s₁, ev₂ ro lim d x₁ s₁ = .ok x s' → lim ≤ s₁.next → Wf s₁ → ∀ Γ₁ w₁ a₁ H₁, Ex Γ Γ₁ lim s s₁ W H H₁ w₁ → FrR Γ₁ x₁ a₁ → K a₁ w₁)
  (hk : ∀ Γ' w' a' H', Ex Γ Γ' lim s s' W H H' w' → FrR Γ' x.2 a' → Q (exitOf x.1) a' w') : c.wpIn (Fw r) 0 P (Exit.then K Q) a w := by
 obtain ⟨x₁, s₁, e₁, e₂⟩ := bnd_ok e
 obtain ⟨hn₁, hw₁⟩ := loc_of (hlo _ _ _ _) e₁ hl hw
 have hn₂ : s₁.next ≤ s'.next := by
  cases hx1 : x₁.1 with
  | normal => simp only [hx1] at e₂; exact (loc_of (hlo₂ _ _ _ _) e₂ (by omega) hw₁).1
  | ret => simp only [hx1, Res.ok.injEq] at e₂; rw [e₂.2]; exact Nat.le_refl _
  | exit id => simp only [hx1, Res.ok.injEq] at e₂; rw [e₂.2]; exact Nat.le_refl _
 refine hev ro lim c m s x₁ s₁ e₁ hl hw Γ W w a r H hS hx hm hro (hf.sub hn₂) _ ?_
 intro Γ₁ w₁ a₁ H₁ hex hfr
 cases hx1 : x₁.1 with
 | normal =>
  simp only [hx1] at e₂
  exact hK x₁.2 s₁ e₂ (by omega) hw₁ Γ₁ w₁ a₁ H₁ hex hfr
 | ret =>
  simp only [hx1, Res.ok.injEq] at e₂
  obtain ⟨rfl, rfl⟩ := e₂
  have := hk Γ₁ w₁ a₁ H₁ hex hfr
  rw [hx1] at this; exact this
 | exit id =>
  simp only [hx1, Res.ok.injEq] at e₂
  obtain ⟨rfl, rfl⟩ := e₂
  have := hk Γ₁ w₁ a₁ H₁ hex hfr
  rw [hx1] at this; exact this
theorem step_sound (hO : SoundO P O) (hmix : P.follows .mixedOrders = true) {k : Nat} (hev : SoundE P (evC P O k)) (hlp : SoundL P O k) : SoundE P (evC P O (k + 1)) ∧ SoundL P O (k + 1) := by
 have hlo : LocE (evC P O k) := loc_ev k
 have hL : SoundL P O (k + 1) := by
  intro ro lim c m s x s' e hl hw Γ W w a r H hS hx hm hro hf Q hk
  rw [roundsIn_succ]
  refine seq_sound hev hlo hlo (d := .loop c) e hl hw hS hx hm hro hf (fun x₁ s₁ e₁ hl₁ hw₁ Γ₁ w₁ a₁ H₁ hex hfr => ?_) hk
  exact hlp ro lim c x₁ s₁ x s' e₁ hl₁ hw₁ Γ₁ W w₁ a₁ r H₁ hex.rel hex.sub hfr (hro.mono hex.le) (hf.after hex) Q fun Γ₂ w₂ a₂ H₂ hex₂ hfr₂ => hk Γ₂ w₂ a₂ H₂ (hex.trans hex₂) hfr₂
 refine ⟨?_, hL⟩
 intro ro lim c m s x s' e hl hw Γ W w a r H hS hx hm hro hf Q hk
 cases c with
 | loop c => exact wpIn_loop_rounds (k + 1) (hL ro lim c m s x s' e hl hw Γ W w a r H hS hx hm hro hf Q hk)
 | skip =>
  have e : Res.ok (AExit.normal, m) s = .ok x s' := e
  simp only [Res.ok.injEq] at e
  obtain ⟨rfl, rfl⟩ := e
  exact wpIn_skip (hk Γ w a H (Ex.refl hS hx) hm)
 | label l =>
  have e : Res.ok (AExit.normal, m) s = .ok x s' := e
  simp only [Res.ok.injEq] at e
  obtain ⟨rfl, rfl⟩ := e
  exact wpIn_label (hk Γ w a H (Ex.refl hS hx) hm)
 | exit id =>
  have e : Res.ok (AExit.exit id, m) s = .ok x s' := e
  simp only [Res.ok.injEq] at e
  obtain ⟨rfl, rfl⟩ := e
  exact wpIn_exit (hk Γ w a H (Ex.refl hS hx) hm)
 | ret =>
  have e : Res.ok (AExit.ret, m) s = .ok x s' := e
  simp only [Res.ok.injEq] at e
  obtain ⟨rfl, rfl⟩ := e
  exact wpIn_ret (hk Γ w a H (Ex.refl hS hx) hm)
 | region id ops draw =>
  obtain ⟨ops⟩ := ops
  have e : bnd (cond draw (drawA P O (evC P O k) lim ops m s) (opsA P O (evC P O k) lim ops ops m s)) (fun m s => .ok (.normal, m) s) = .ok x s' := e
  obtain ⟨m₁, s₁, e₁, e₂⟩ := bnd_ok e
  simp only [Res.ok.injEq] at e₂
  obtain ⟨rfl, rfl⟩ := e₂
  cases draw with
  | true => exact draw_sound hO hev hlo hmix e₁ hl hw hS hx hm hf r hk
  | false =>
   refine wpIn_region ?_
   have : List.range (⟨ops⟩ : Array Oper).size = List.range' 0 ops.length := by simp [List.range_eq_range']
   rw [this]
   exact ops_sound hO hev hlo ops 0 Γ w m m₁ a s s₁ H rfl e₁ hl hw hS hx hm hf hk
 | seq c d =>
  refine wpIn_seq ?_
  refine seq_sound hev hlo hlo (d := d) e hl hw hS hx hm hro hf (fun x₁ s₁ e₁ hl₁ hw₁ Γ₁ w₁ a₁ H₁ hex hfr => ?_) hk
  exact hev ro lim d x₁ s₁ x s' e₁ hl₁ hw₁ Γ₁ W w₁ a₁ r H₁ hex.rel hex.sub hfr (hro.mono hex.le) (hf.after hex) Q fun Γ₂ w₂ a₂ H₂ hex₂ hfr₂ => hk Γ₂ w₂ a₂ H₂ (hex.trans hex₂) hfr₂
 | cond g c d =>
  have e : cond (opFlat g) (match m.eval g with
   | .bool true => evC P O k ro lim c m s
   | .bool false => evC P O k ro lim d m s
   | _ => .fail "cond") (.fail "cond") = .ok x s' := e
  cases hg : opFlat g with
  | false => simp [hg] at e
  | true =>
   simp only [hg, cond_true] at e
   have hv := eval_rel hm.tm g hg
   split at e
   ·rename_i he
    rw [he] at hv
    cases hu : a.eval g <;> rw [hu] at hv <;> cases hv
    exact wpIn_cond_true hu (hev ro lim c m s x s' e hl hw Γ W w a r H hS hx hm hro hf Q hk)
   ·rename_i he
    rw [he] at hv
    cases hu : a.eval g <;> rw [hu] at hv <;> cases hv
    exact wpIn_cond_false hu (hev ro lim d m s x s' e hl hw Γ W w a r H hS hx hm hro hf Q hk)
   ·simp at e
 | block id c =>
  have e : bnd (evC P O k ro lim c m s) (fun x s => match x.1 with
   | .exit i => .ok (cond (Nat.beq i id) .normal (.exit i), x.2) s
   | _ => .ok x s) = .ok x s' := e
  obtain ⟨x₁, s₁, e₁, e₂⟩ := bnd_ok e
  have hs : s₁ = s' ∧ x.2 = x₁.2 := by
   cases hx1 : x₁.1 with
   | normal => simp only [hx1, Res.ok.injEq] at e₂; exact ⟨e₂.2, by rw [← e₂.1]⟩
   | ret => simp only [hx1, Res.ok.injEq] at e₂; exact ⟨e₂.2, by rw [← e₂.1]⟩
   | exit i => simp only [hx1, Res.ok.injEq] at e₂; exact ⟨e₂.2, by rw [← e₂.1]⟩
  obtain ⟨rfl, hx2⟩ := hs
  refine wpIn_block ?_
  refine hev ro lim c m s x₁ s₁ e₁ hl hw Γ W w a r H hS hx hm hro hf _ ?_
  intro Γ₁ w₁ a₁ H₁ hex hfr
  have q := hk Γ₁ w₁ a₁ H₁ hex (by rw [hx2]; exact hfr)
  cases hx1 : x₁.1 with
  | normal => simp only [hx1, Res.ok.injEq] at e₂; rw [← e₂.1, hx1] at q; exact q
  | ret => simp only [hx1, Res.ok.injEq] at e₂; rw [← e₂.1, hx1] at q; exact q
  | exit i =>
   simp only [hx1, Res.ok.injEq] at e₂
   rw [← e₂.1] at q
   show if i = id then Q .normal a₁ w₁ else Q (.exit i) a₁ w₁
   cases hb : Nat.beq i id with
   | true =>
    have := Nat.eq_of_beq_eq_true hb
    subst this
    rw [hb] at q
    rw [if_pos rfl]; exact q
   | false =>
    rw [hb] at q
    have : i ≠ id := fun h => by rw [h, Nat.beq_refl] at hb; exact Bool.noConfusion hb
    rw [if_neg this]; exact q
 | scope c =>
  have e : evC P O k ro lim c m s = .ok x s' := e
  refine wpIn_scope ?_
  refine hev ro lim c m s x s' e hl hw Γ W w a r H hS hx hm hro hf _ ?_
  intro Γ₁ w₁ a₁ H₁ hex hfr
  have q := hk Γ₁ w₁ a₁ H₁ hex hfr
  cases hx1 : x.1 <;> rw [hx1] at q <;> exact q
 | rangeFunc g ps assign body => exact range_sound hO hev hlo e hl hw hS hx hm hro hf hk
 | _ =>
  have e : (Res.fail "code" : Res (AExit × Tm)) = .ok x s' := e
  simp at e
theorem ev_sound (hO : SoundO P O) (hmix : P.follows .mixedOrders = true) : ∀ k, SoundE P (evC P O k) ∧ SoundL P O k
 | 0 => ⟨fun ro lim c m s x s' e => by
     have e : (Res.fail "fuel" : Res (AExit × Tm)) = .ok x s' := e
     simp at e, fun ro lim c m s x s' e => by
     have e : (Res.fail "fuel" : Res (AExit × Tm)) = .ok x s' := e
     simp at e⟩
 | k + 1 => let ⟨h1, h2⟩ := ev_sound hO hmix k; step_sound hO hmix h1 h2
end
def GrownA (W w' : World) : Prop := W.keptBut w' (fun _ => False) ∧ (∀ a, a.block < W.heap.size → w'.frozen? a = W.frozen? a) ∧ W.heap.size ≤ w'.heap.size
theorem GrownA.frame {W w' : World} (h : GrownA W w') (may : MemPlace → Prop) : W.keptBut w' may := World.keptBut_mono (fun _ f => f.elim) h.1
theorem post_of_sameA {H : Type} {enc : TypeId × Value → H} {P : Program} {f : Func} {s : ChangeSpec} {apart fresh handsOn again : Bool} {W W' : World} {args : Array Value} {v : Value} {ds gs : List (DataW H)} {before pa pv : List MemPlace}
  (hW : DataW.Whole enc P f.params.toList s.vars apart W args.toList ds gs before)
  (hres : ∀ (b : Nat) (sp : Nat → Bool) (hd : Bool), DataW.TrodAll enc P W' b sp hd f.resultTypes.toList (v.resultList f.resultTypes.size) (s.fn H (ds ++ gs)).results [])
  (hargs : ∀ sp : Nat → Bool, (∀ p ∈ before, sp p.block = true) → DataW.TrodAll enc P W' 0 sp true f.params.toList args.toList (s.fn H (ds ++ gs)).args pa)
  (hvars : ∀ sp : Nat → Bool, (∀ p ∈ before, sp p.block = true) → DataW.TrodVars enc P W' sp s.vars (s.fn H (ds ++ gs)).vars pv)
  (hps : before = pa ++ pv) (hg : GrownA W W')
  (hok : ∀ (j : Nat) (t : TypeId) (r : Value), f.resultTypes[j]? = some t → (v.resultList f.resultTypes.size)[j]? = some r → Value.okWide P W' .any 0 t r) :
  s.post enc P f apart fresh handsOn again W args v W' := by
 have hlow : ∀ p ∈ before, p.block < W.heap.size := fun p hp => by simpa using hW.lt p hp
 have hold : ∀ p ∈ before, (fun b => decide (b < W.heap.size)) p.block = true := fun p hp => by simpa using hlow p hp
 refine ⟨ds, gs, before, [], pa, pv, hW, hres _ _ _, hargs _ hold, hvars _ hold, World.keptBut_mono (fun p hp => ⟨hp, ?_⟩) (hg.frame (· ∈ before)), fun _ => ?_⟩
 ·rw [hps, List.mem_append] at hp
  exact Or.inr hp
 ·obtain ⟨_, _, _, _, _, hz, hn⟩ := hW
  refine ⟨hok, _, _, ([] ++ pa) ++ pv, ⟨[] ++ pa, pv, trodAll_append (hargs _ (fun _ _ => rfl)) (hres _ _ _), hvars _ (fun _ _ => rfl), rfl, ?_, ?_⟩, ?_⟩
  ·intro b off hp
   have hm : MemPlace.cell b off ∈ before := by rw [hps]; simpa using hp
   rw [hg.2.1 _ (hlow _ hm)]
   exact hz b off hm
  ·intro ha
   have := hn ha
   rw [hps] at this
   simpa using this
  ·intro p hp _
   rw [hps]
   simpa using hp
end Go.Am
