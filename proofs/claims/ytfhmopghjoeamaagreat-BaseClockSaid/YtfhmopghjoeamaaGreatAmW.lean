/-
  The abstract machine: ranges over functions, code, and what a closed law comes to.
-/
import Derived.Test.YtfhmopghjoeamaaGreatAmV
import Derived.RangeFuncNested
import Derived.RowKit3
import Derived.Scope
import Derived.ChangeSame
set_option linter.unusedSimpArgs false
set_option linter.unusedVariables false
namespace Go.Am
open Go.RowKit Go.ChangeShapes Go.WideShapes
section
variable {P:Program} {O:Over} {ev:iA} {Γ:aT} {W w:World} {H:PT ak}
theorem w4 {ro r:Option Nat} {m:Tm} {tmps:Array Value} {ds:List Deferred} {ps:Array Tmp} {assign body:Code} (fn:FuncId) (hro:A_ Γ ro r) (ht:dA Γ m tmps) (hd:A8 Γ m.gn ds):
  dH P Γ (t_ ro m ps.toList assign body) (Instr.enterLoop fn tmps ps assign body r) (fun aH x y=>aH.blk x.1=some (y.1,0)∧A8 aH x.2 (y.2++ds)):=by
 intro W h n w hS
 unfold t_
 cases hro with
 |yes l₀ RT hl=>
  refine ah.get fun B hB=>?_
  split
  ·rename_i st eM tm ps' as bd
   obtain⟨L,h1,_⟩:=iH hS hl hB
   refine ah.new fun hn=>?_
   obtain⟨aH,hst,hb,fJ⟩:=hS.eB hn (.loop { state := .ready,pending:=none,fn,tmps,params:=ps,assign,body,defers:=L.defers }) (.loop .ready none m ps.toList assign body) rfl
    (fun aH w' hle h1=>⟨rfl,_,h1,rfl,rfl,ht.mono hle,rfl,rfl,rfl⟩)
   exact⟨aH,_,pure (w.heap.size,[]),hst,run_enterLoop_inner h1 _ _ _ _ _,ah.ok fJ rfl ⟨hb,hd.mono hst.le⟩⟩
  ·exact ah.fail
 |no=>
  refine ah.new fun hn=>?_
  obtain⟨bJ,hst,hb,IC⟩:=hS.eB hn (.deferred (some [])) .deferred rfl (fun aH w' _ h1=>⟨rfl,h1⟩)
  have hsz:(w.alloc (.deferred (some []))).heap.size=w.heap.size+1:=by simp
  refine⟨bJ,w.alloc (.deferred (some [])),(do pure (←newObj (.loop { state := .ready,pending:=none,fn,tmps,params:=ps,assign,body,defers:=w.heap.size }),[({ target := .collected w.heap.size,args:=#[] }:Deferred)]):Sem (Nat×List Deferred)),hst,?_,?_⟩
  ·rw[run_enterLoop_outer]
   simp only[Sem.run_bind,run_newObj_alloc,Result.andThen,Sem.run_pure,hsz]
  refine ah.new fun hn'=>?_
  obtain⟨b_,uQ,hb₂,sj⟩:=IC.eB hn' (.loop { state := .ready,pending:=none,fn,tmps,params:=ps,assign,body,defers:=w.heap.size }) (.loop .ready none m ps.toList assign body) rfl
   (fun aH w' hle h1=>⟨rfl,_,h1,rfl,rfl,(ht.mono hst.le).mono hle,rfl,rfl,rfl⟩)
  exact⟨b_,_,pure (w.heap.size+1,[{ target := .collected w.heap.size,args:=#[] }]),uQ,
   (by simp only[Sem.run_bind,run_newObj_alloc,Result.andThen,Sem.run_pure,hsz]),
   ah.ok sj rfl ⟨by rw[hb₂];simp,.cons _ _ _ _ (uQ.le.blk _ _ hb) ((hd.mono hst.le).mono uQ.le)⟩⟩
theorem uR {x x':Value} {l l':Nat} (hl:Γ.blk l=some (l',0)) (hx:ay Γ x x'):
  (∃ fn' f' c',x' = .func fn' ⟨f'⟩ ⟨c'⟩∧dH P Γ (gy P x l) (invoke (.fn fn' ⟨c'⟩) ⟨f'++[.func (.yield l') ⟨[]⟩ ⟨[]⟩]⟩ >>= pure) (fun Γ fa nx=>∃ args',nx = .enter fa.1 ⟨args'⟩∧aB Γ fa.2 args'))∨
   ∃ why,gy P x l = .fail why:=by
 cases hx with
 |func fn fn' f f' c c' hf hc hp=>
  refine .inl ⟨fn',f',c',rfl,fun W h n w hS=>?_⟩
  unfold gy
  refine ah.bind (mC (P:=P) hp hc (hf.append (.cons _ _ _ _ (.func _ _ _ _ _ _ .nil .nil (.yield _ _ hl)) .nil)) W h n w hS) ?_
  intro aH nx Zk hle x7 W h n w hS
  cases x7 with
  |enter f args args' ha=>exact ah.ok hS rfl ⟨args',rfl,ha⟩
  | _=>exact ah.fail
 | _=>exact .inr ⟨_,rfl⟩
theorem sE (hO:bW P O) (cL:d_ P ev) (hlo:eF ev) {ro r:Option Nat} {lim:Nat} {g:Operand} {ps:Array Tmp} {assign body:Code} {m:Tm} {a:Act} {s s':HS} {x:bp×Tm} (e:dW P O ev ro lim g ps.toList assign body m s = .ok x s') (hl:lim≤s.next) (hw:Wf s)
  (hS:aQ Γ W H w) (hx:Ext s.heap H) (hm:oa Γ m a) (hro:A_ Γ ro r) (hf:Free Γ s.next s'.next) {Q:Exit→Act→World→Prop}
  (hk:∀ aH w' a' H',Ex Γ aH lim s s' W H H' w'→oa aH x.2 a'→Q (qC x.1) a' w'):(Code.rangeFunc g ps assign body).wpIn (Fw r) 0 P Q a w:=by
 unfold dW at e
 cases hg:aW g with
 |false=>simp[hg] at e
 |true=>
  simp only[hg,cond_true] at e
  obtain⟨ld,s₁,e₁,e⟩:=aU e
  obtain⟨fa,s₂,e₂,e⟩:=aU e
  obtain⟨v,s₃,e₃,e⟩:=aU e
  obtain⟨y,s₄,e₄,e⟩:=aU e
  simp only[aS.ok.injEq] at e
  obtain⟨rfl,rfl⟩:=e
  obtain⟨hn₁,dc⟩:=dm (cm _) e₁ hl hw
  obtain⟨hn₂,sv⟩:=dm (cm _) e₂ (by omega) dc
  obtain⟨Ir,sx⟩:=dm (n_ hlo _ _) e₃ (by omega) sv
  obtain⟨Iu,_⟩:=dm (cm _) e₄ (by omega) sx
  refine wpIn_rangeFunc ?_
  intro fn _
  obtain⟨bJ,w₁,lm,H₁,BR,bN,hb₁,hd₁⟩:=jL (w4 (P:=P) (ps:=ps) (assign:=assign) (body:=body) fn hro hm.tm hm.df) e₁ hl hw hS hx (hf.sub (by omega))
  have V_:ay bJ (m.eval g) (a.eval g):=(og hm.tm g hg).mono bN.le
  rcases uR (P:=P) hb₁ V_ with ⟨fn',f',c',Om,Oo⟩ | ⟨why,IE⟩
  ·obtain⟨b_,w₂,nx,H₂,iI,cq,args',rfl,ha⟩:=jL Oo e₂ (by omega) dc bN.rel bN.sub (hf.after bN |>.sub (by omega))
   have gY:=bN.trans cq
   have hinv:(invoke (.fn fn' ⟨c'⟩) ⟨f'++[.func (.yield lm.1) ⟨[]⟩ ⟨[]⟩]⟩).run P w₁ = .ok (.enter fa.1 ⟨args'⟩) w₂:=by
    rw[Sem.run_bind] at iI
    cases hi:(invoke (.fn fn' ⟨c'⟩) ⟨f'++[.func (.yield lm.1) ⟨[]⟩ ⟨[]⟩]⟩).run P w₁ with
    |ok u w'=>rw[hi] at iI;simpa using iI
    |halt u w'=>rw[hi] at iI;simp[Result.andThen] at iI
   refine⟨lm.1,lm.2,w₁,{ target := .fn fn' ⟨c'⟩,args:=⟨f'++[.func (.yield lm.1) ⟨[]⟩ ⟨[]⟩]⟩ },w₁,fa.1,⟨args'⟩,w₂,BR,?_,fun _ _=>trivial,hinv,fun h=>by simp[Fw] at h,?_⟩
   ·simp only[resolve,Om]
    have kQ:((⟨f'⟩:Array Value)++(rangeCall g lm.1).args.map a.eval)=⟨f'++[.func (.yield lm.1) ⟨[]⟩ ⟨[]⟩]⟩:=by
     apply Array.ext';simp[Act.eval]
    simp only[Deferred.ofValue,Sem.run_pure]
    rw[kQ]
   ·refine CallsIn.mono (ko hO cL hlo e₃ (by omega) sv cq.rel cq.sub ha (hf.after gY |>.sub (by omega)) r) ?_
    rintro en w₃ ⟨Iv,v',Oc,rfl,iJ,_⟩
    have fL:=gY.trans iJ
    have yU:=(cq.le.trans iJ.le).blk _ _ hb₁
    obtain⟨sy,BP,j,ED,qD,qE,rfl⟩:=jL (yT (P:=P) yU) e₄ (by omega) sx iJ.rel iJ.sub (hf.after fL)
    have IF:=fL.trans qE
    have hfr:oa sy { m with gn:=ld.2 } { a with defers:=lm.2++a.defers }:=by
     have hle:bJ.le sy:=(cq.le.trans iJ.le).trans qE.le
     exact⟨⟨hm.tm.size,(hm.tm.mono IF.le).get⟩,hd₁.mono hle⟩
    have q:=hk sy BP { a with defers:=lm.2++a.defers } ED IF hfr
    refine⟨exitCode y,BP,qD,?_⟩
    cases y with
    |normal=>exact q
    |ret=>exact wpIn_ret q
    |exit id=>exact wpIn_exit q
  ·rw[IE] at e₂;simp[AP.run] at e₂
theorem uS {F:Fence} {n:Nat} {Q:Exit→Act→World→Prop} {a:Act} {c:Code} (h:c.wpIn F n P (Exit.noGoto Q) a w):(Code.scope c).wpIn F n P Q a w:=by
 intro b k cs hro hb hr
 have h1:step P (lone (b.atR a (.code (.scope c)::k)) cs w) = .next (lone (b.atR a (.code c :: .inScope c::k)) cs w):=step_lone_go (by simp[stepG,stepG.exec,Frame.atR])
 have h2:∀ a w,step P (lone (b.atR a (.inScope c::k)) cs w) = .next (lone (b.atR a k) cs w):=fun a w=>step_lone_go (by simp[stepG,stepG.exec,Frame.atR])
 have h0:(lone (b.atR a (.code (.scope c)::k)) cs w).fenced P F:=fenced_calm hb hr rfl
 obtain⟨e,a₁,w₁,hq,kQ⟩:=h b (.inScope c::k) cs hro hb hr
 have hx:∀ id,exitTo id (.inScope c::k)=exitTo id k:=fun id=>by simp[exitTo]
 cases e with
 |normal=>exact⟨.normal,a₁,w₁,hq,.head h0 h1 (StepsIn.trans kQ (.one (fenced_calm hb hr rfl) (h2 _ _)))⟩
 |exit id=>
  exact⟨.exit id,a₁,w₁,hq,fun k' hk => .head h0 h1 (kQ.1 k' (by rw[hx];exact hk)),
   fun hr' hk=>let ⟨k₁,q1,q2⟩:=kQ.2 hr' (by rw[hx];exact hk);⟨k₁,q1,.head h0 h1 q2⟩⟩
 |goto l=>exact hq.elim
 |ret=>exact⟨_,a₁,w₁,hq,.of_steps (.one h0 h1) kQ⟩
 |panic ch=>exact⟨_,a₁,w₁,hq,.of_steps (.one h0 h1) kQ⟩
 |outgrown=>exact⟨_,a₁,w₁,hq,.of_steps (.one h0 h1) kQ⟩
def qH (P:Program) (O:Over) (k:Nat):Prop:=
 ∀ ro lim c m s x s',jg P O k ro lim (.loop c) m s = .ok x s'→lim≤s.next→Wf s→∀ Γ W w a r H,aQ Γ W H w→Ext s.heap H→oa Γ m a→A_ Γ ro r→Free Γ s.next s'.next→
  ∀ Q:Exit→Act→World→Prop,(∀ aH w' a' H',Ex Γ aH lim s s' W H H' w'→oa aH x.2 a'→Q (qC x.1) a' w')→Code.roundsIn (Fw r) 0 P c Q k a w
theorem pM (cL:d_ P ev) (hlo:eF ev) {y2:iA} (EI:eF y2) {ro:Option Nat} {lim:Nat} {c d:Code} {m:Tm} {s s':HS} {x:bp×Tm}
  (e:bz (ev ro lim c m s) (fun x s=>match x.1 with | .normal=>y2 ro lim d x.2 s | _ => .ok x s) = .ok x s') (hl:lim≤s.next) (hw:Wf s) {a:Act} {r:Option Nat}
  (hS:aQ Γ W H w) (hx:Ext s.heap H) (hm:oa Γ m a) (hro:A_ Γ ro r) (hf:Free Γ s.next s'.next) {Q:Exit→Act→World→Prop} {K:Act→World→Prop}
  (hK:∀ x₁ s₁,y2 ro lim d x₁ s₁ = .ok x s'→lim≤s₁.next→Wf s₁→∀ bJ w₁ a₁ H₁,Ex Γ bJ lim s s₁ W H H₁ w₁→oa bJ x₁ a₁→K a₁ w₁)
  (hk:∀ aH w' a' H',Ex Γ aH lim s s' W H H' w'→oa aH x.2 a'→Q (qC x.1) a' w'):c.wpIn (Fw r) 0 P (Exit.then K Q) a w:=by
 obtain⟨x₁,s₁,e₁,e₂⟩:=aU e
 obtain⟨hn₁,dc⟩:=dm (hlo _ _ _ _) e₁ hl hw
 have hn₂:s₁.next≤s'.next:=by
  cases hx1:x₁.1 with
  |normal=>simp only[hx1] at e₂;exact(dm (EI _ _ _ _) e₂ (by omega) dc).1
  |ret=>simp only[hx1,aS.ok.injEq] at e₂;rw[e₂.2];exact Nat.le_refl _
  |exit id=>simp only[hx1,aS.ok.injEq] at e₂;rw[e₂.2];exact Nat.le_refl _
 refine cL ro lim c m s x₁ s₁ e₁ hl hw Γ W w a r H hS hx hm hro (hf.sub hn₂) _ ?_
 intro bJ w₁ a₁ H₁ hex hfr
 cases hx1:x₁.1 with
 |normal=>
  simp only[hx1] at e₂
  exact hK x₁.2 s₁ e₂ (by omega) dc bJ w₁ a₁ H₁ hex hfr
 |ret=>
  simp only[hx1,aS.ok.injEq] at e₂
  obtain⟨rfl,rfl⟩:=e₂
  have:=hk bJ w₁ a₁ H₁ hex hfr
  rw[hx1] at this;exact this
 |exit id=>
  simp only[hx1,aS.ok.injEq] at e₂
  obtain⟨rfl,rfl⟩:=e₂
  have:=hk bJ w₁ a₁ H₁ hex hfr
  rw[hx1] at this;exact this
theorem uT (hO:bW P O) (jW:P.follows .mixedOrders=true) {k:Nat} (cL:d_ P (jg P O k)) (hlp:qH P O k):d_ P (jg P O (k+1))∧qH P O (k+1):=by
 have hlo:eF (jg P O k):=lI k
 have hL:qH P O (k+1):=by
  intro ro lim c m s x s' e hl hw Γ W w a r H hS hx hm hro hf Q hk
  rw[roundsIn_succ]
  refine pM cL hlo hlo (d := .loop c) e hl hw hS hx hm hro hf (fun x₁ s₁ e₁ hl₁ dc bJ w₁ a₁ H₁ hex hfr=>?_) hk
  exact hlp ro lim c x₁ s₁ x s' e₁ hl₁ dc bJ W w₁ a₁ r H₁ hex.rel hex.sub hfr (hro.mono hex.le) (hf.after hex) Q fun b_ w₂ a₂ H₂ cq uU=>hk b_ w₂ a₂ H₂ (hex.trans cq) uU
 refine⟨?_,hL⟩
 intro ro lim c m s x s' e hl hw Γ W w a r H hS hx hm hro hf Q hk
 cases c with
 |loop c=>exact wpIn_loop_rounds (k+1) (hL ro lim c m s x s' e hl hw Γ W w a r H hS hx hm hro hf Q hk)
 |skip=>
  have e:aS.ok (bp.normal,m) s = .ok x s':=e
  simp only[aS.ok.injEq] at e
  obtain⟨rfl,rfl⟩:=e
  exact wpIn_skip (hk Γ w a H (Ex.refl hS hx) hm)
 |label l=>
  have e:aS.ok (bp.normal,m) s = .ok x s':=e
  simp only[aS.ok.injEq] at e
  obtain⟨rfl,rfl⟩:=e
  exact wpIn_label (hk Γ w a H (Ex.refl hS hx) hm)
 |exit id=>
  have e:aS.ok (bp.exit id,m) s = .ok x s':=e
  simp only[aS.ok.injEq] at e
  obtain⟨rfl,rfl⟩:=e
  exact wpIn_exit (hk Γ w a H (Ex.refl hS hx) hm)
 |ret=>
  have e:aS.ok (bp.ret,m) s = .ok x s':=e
  simp only[aS.ok.injEq] at e
  obtain⟨rfl,rfl⟩:=e
  exact wpIn_ret (hk Γ w a H (Ex.refl hS hx) hm)
 |region id ops draw=>
  obtain⟨ops⟩:=ops
  have e:bz (cond draw (dV P O (jg P O k) lim ops m s) (gp P O (jg P O k) lim ops ops m s)) (fun m s => .ok (.normal,m) s) = .ok x s':=e
  obtain⟨m₁,s₁,e₁,e₂⟩:=aU e
  simp only[aS.ok.injEq] at e₂
  obtain⟨rfl,rfl⟩:=e₂
  cases draw with
  |true=>exact uP hO cL hlo jW e₁ hl hw hS hx hm hf r hk
  |false=>
   refine wpIn_region ?_
   have:List.range (⟨ops⟩:Array Oper).size=List.range' 0 ops.length:=by simp[List.range_eq_range']
   rw[this]
   exact pL hO cL hlo ops 0 Γ w m m₁ a s s₁ H rfl e₁ hl hw hS hx hm hf hk
 |seq c d=>
  refine wpIn_seq ?_
  refine pM cL hlo hlo (d:=d) e hl hw hS hx hm hro hf (fun x₁ s₁ e₁ hl₁ dc bJ w₁ a₁ H₁ hex hfr=>?_) hk
  exact cL ro lim d x₁ s₁ x s' e₁ hl₁ dc bJ W w₁ a₁ r H₁ hex.rel hex.sub hfr (hro.mono hex.le) (hf.after hex) Q fun b_ w₂ a₂ H₂ cq uU=>hk b_ w₂ a₂ H₂ (hex.trans cq) uU
 |cond g c d=>
  have e:cond (aW g) (match m.eval g with
   | .bool true=>jg P O k ro lim c m s
   | .bool false=>jg P O k ro lim d m s
   | _ => .fail "cond") (.fail "cond") = .ok x s':=e
  cases hg:aW g with
  |false=>simp[hg] at e
  |true=>
   simp only[hg,cond_true] at e
   have hv:=og hm.tm g hg
   split at e
   ·rename_i he
    rw[he] at hv
    cases hu:a.eval g<;>rw[hu] at hv<;>cases hv
    exact wpIn_cond_true hu (cL ro lim c m s x s' e hl hw Γ W w a r H hS hx hm hro hf Q hk)
   ·rename_i he
    rw[he] at hv
    cases hu:a.eval g<;>rw[hu] at hv<;>cases hv
    exact wpIn_cond_false hu (cL ro lim d m s x s' e hl hw Γ W w a r H hS hx hm hro hf Q hk)
   ·simp at e
 |block id c=>
  have e:bz (jg P O k ro lim c m s) (fun x s=>match x.1 with
   | .exit i => .ok (cond (Nat.beq i id) .normal (.exit i),x.2) s
   | _ => .ok x s) = .ok x s':=e
  obtain⟨x₁,s₁,e₁,e₂⟩:=aU e
  have hs:s₁=s'∧x.2=x₁.2:=by
   cases hx1:x₁.1 with
   |normal=>simp only[hx1,aS.ok.injEq] at e₂;exact⟨e₂.2,by rw[←e₂.1]⟩
   |ret=>simp only[hx1,aS.ok.injEq] at e₂;exact⟨e₂.2,by rw[←e₂.1]⟩
   |exit i=>simp only[hx1,aS.ok.injEq] at e₂;exact⟨e₂.2,by rw[←e₂.1]⟩
  obtain⟨rfl,hx2⟩:=hs
  refine wpIn_block ?_
  refine cL ro lim c m s x₁ s₁ e₁ hl hw Γ W w a r H hS hx hm hro hf _ ?_
  intro bJ w₁ a₁ H₁ hex hfr
  have q:=hk bJ w₁ a₁ H₁ hex (by rw[hx2];exact hfr)
  cases hx1:x₁.1 with
  |normal=>simp only[hx1,aS.ok.injEq] at e₂;rw[←e₂.1,hx1] at q;exact q
  |ret=>simp only[hx1,aS.ok.injEq] at e₂;rw[←e₂.1,hx1] at q;exact q
  |exit i=>
   simp only[hx1,aS.ok.injEq] at e₂
   rw[←e₂.1] at q
   show if i=id then Q .normal a₁ w₁ else Q (.exit i) a₁ w₁
   cases hb:Nat.beq i id with
   |true=>
    have:=Nat.eq_of_beq_eq_true hb
    subst this
    rw[hb] at q
    rw[if_pos rfl];exact q
   |false=>
    rw[hb] at q
    have:i≠id:=fun h=>by rw[h,Nat.beq_refl] at hb;exact Bool.noConfusion hb
    rw[if_neg this];exact q
 |scope c=>
  have e:jg P O k ro lim c m s = .ok x s':=e
  refine uS ?_
  refine cL ro lim c m s x s' e hl hw Γ W w a r H hS hx hm hro hf _ ?_
  intro bJ w₁ a₁ H₁ hex hfr
  have q:=hk bJ w₁ a₁ H₁ hex hfr
  cases hx1:x.1<;>rw[hx1] at q<;>exact q
 |rangeFunc g ps assign body=>exact sE hO cL hlo e hl hw hS hx hm hro hf hk
 | _=>
  have e:(aS.fail "code":aS (bp×Tm)) = .ok x s':=e
  simp at e
theorem kX (hO:bW P O) (jW:P.follows .mixedOrders=true):∀ k,d_ P (jg P O k)∧qH P O k
 |0=>⟨fun ro lim c m s x s' e=>by
   have e:(aS.fail "fuel":aS (bp×Tm)) = .ok x s':=e
   simp at e,fun ro lim c m s x s' e=>by
   have e:(aS.fail "fuel":aS (bp×Tm)) = .ok x s':=e
   simp at e⟩
 |k+1=>let ⟨h1,h2⟩:=kX hO jW k;uT hO jW h1 h2
end
def qI (W w':World):Prop:=W.keptBut w' (fun _=>False)∧(∀ a,a.block<W.heap.size→w'.frozen? a=W.frozen? a)∧W.heap.size≤w'.heap.size
theorem qI.frame {W w':World} (h:qI W w') (may:MemPlace→Prop):W.keptBut w' may:=World.keptBut_mono (fun _ f=>f.elim) h.1
theorem o9 {H:Type} {enc:TypeId×Value→H} {P:Program} {f:Func} {s:ChangeSpec} {apart fresh handsOn again:Bool} {W W':World} {args:Array Value} {v:Value} {ds gs:List (DataW H)} {before pa pv:List MemPlace}
  (hW:DataW.Whole enc P f.params.toList s.vars apart W args.toList ds gs before)
  (hres:∀ (b:Nat) (sp:Nat→Bool) (hd:Bool),DataW.TrodAll enc P W' b sp hd f.resultTypes.toList (v.resultList f.resultTypes.size) (s.fn H (ds++gs)).results [])
  (hargs:∀ sp:Nat→Bool,(∀ p∈before,sp p.block=true)→DataW.TrodAll enc P W' 0 sp true f.params.toList args.toList (s.fn H (ds++gs)).args pa)
  (hvars:∀ sp:Nat→Bool,(∀ p∈before,sp p.block=true)→DataW.TrodVars enc P W' sp s.vars (s.fn H (ds++gs)).vars pv)
  (hps:before=pa++pv) (hg:qI W W')
  (hok:∀ (j:Nat) (t:TypeId) (r:Value),f.resultTypes[j]? = some t→(v.resultList f.resultTypes.size)[j]? = some r→Value.okWide P W' .any 0 t r):
  s.post enc P f apart fresh handsOn again W args v W':=by
 have dL:∀ p∈before,p.block<W.heap.size:=fun p hp=>by simpa using hW.lt p hp
 have hold:∀ p∈before,(fun b=>decide (b<W.heap.size)) p.block=true:=fun p hp=>by simpa using dL p hp
 refine⟨ds,gs,before,[],pa,pv,hW,hres _ _ _,hargs _ hold,hvars _ hold,World.keptBut_mono (fun p hp=>⟨hp,?_⟩) (hg.frame (·∈before)),fun _=>?_⟩
 ·rw[hps,List.mem_append] at hp
  exact Or.inr hp
 ·obtain⟨_,_,_,_,_,hz,hn⟩:=hW
  refine⟨hok,_,_,([]++pa)++pv,⟨[]++pa,pv,trodAll_append (hargs _ (fun _ _=>rfl)) (hres _ _ _),hvars _ (fun _ _=>rfl),rfl,?_,?_⟩,?_⟩
  ·intro b off hp
   have hm:MemPlace.cell b off∈before:=by rw[hps];simpa using hp
   rw[hg.2.1 _ (dL _ hm)]
   exact hz b off hm
  ·intro ha
   have:=hn ha
   rw[hps] at this
   simpa using this
  ·intro p hp _
   rw[hps]
   simpa using hp
end Go.Am
