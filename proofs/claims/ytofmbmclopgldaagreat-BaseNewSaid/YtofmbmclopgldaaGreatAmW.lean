/-
  The abstract machine: ranges over functions, code, and what a closed law comes to.
-/
import Derived.Test.YtofmbmclopgldaaGreatAmV
import Derived.RangeFuncNested
import Derived.RowKit3
import Derived.Scope
import Derived.ChangeSame
set_option linter.unusedSimpArgs false
set_option linter.unusedVariables false
namespace Go.Am
open Go.RowKit Go.ChangeShapes Go.WideShapes
section
variable {P:Program} {O:Over} {ev:fU} {Γ:br} {W w:World} {H:PT ak}
theorem C9 {ro r:Option Nat} {m:Tm} {tmps:Array Value} {ds:List Deferred} {ps:Array Tmp} {assign body:Code} (fn:FuncId) (hro:Ir Γ ro r) (ht:fm Γ m tmps) (hd:Iq Γ m.eS ds):
  fD P Γ (vw ro m ps.toList assign body) (Instr.enterLoop fn tmps ps assign body r) (fun aS x y=>aS.blk x.1=some (y.1,0)∧Iq aS x.2 (y.2++ds)):=by
 intro W h n w hS
 unfold vw
 cases hro with
 |yes l₀ adV hl=>
  refine aj.get fun B hB=>?_
  split
  ·rename_i st gH tm ps' as bd
   obtain⟨L,h1,_⟩:=ke hS hl hB
   refine aj.new fun hn=>?_
   obtain⟨aS,hst,hb,iO⟩:=hS.gL hn (.loop { state := .ready,pending:=none,fn,tmps,params:=ps,assign,body,defers:=L.defers }) (.loop .ready none m ps.toList assign body) rfl
    (fun aS w' hle h1=>⟨rfl,_,h1,rfl,rfl,ht.mono hle,rfl,rfl,rfl⟩)
   exact⟨aS,_,pure (w.heap.size,[]),hst,run_enterLoop_inner h1 _ _ _ _ _,aj.ok iO rfl ⟨hb,hd.mono hst.le⟩⟩
  ·exact aj.fail
 |no=>
  refine aj.new fun hn=>?_
  obtain⟨cB,hst,hb,SC⟩:=hS.gL hn (.deferred (some [])) .deferred rfl (fun aS w' _ h1=>⟨rfl,h1⟩)
  have hsz:(w.alloc (.deferred (some []))).heap.size=w.heap.size+1:=by simp
  refine⟨cB,w.alloc (.deferred (some [])),(do pure (←newObj (.loop { state := .ready,pending:=none,fn,tmps,params:=ps,assign,body,defers:=w.heap.size }),[({ target := .collected w.heap.size,args:=#[] }:Deferred)]):Sem (Nat×List Deferred)),hst,?_,?_⟩
  ·rw[run_enterLoop_outer]
   simp only[Sem.run_bind,run_newObj_alloc,Result.andThen,Sem.run_pure,hsz]
  refine aj.new fun hn'=>?_
  obtain⟨dA,As,hb₂,xU⟩:=SC.gL hn' (.loop { state := .ready,pending:=none,fn,tmps,params:=ps,assign,body,defers:=w.heap.size }) (.loop .ready none m ps.toList assign body) rfl
   (fun aS w' hle h1=>⟨rfl,_,h1,rfl,rfl,(ht.mono hst.le).mono hle,rfl,rfl,rfl⟩)
  exact⟨dA,_,pure (w.heap.size+1,[{ target := .collected w.heap.size,args:=#[] }]),As,
   (by simp only[Sem.run_bind,run_newObj_alloc,Result.andThen,Sem.run_pure,hsz]),
   aj.ok xU rfl ⟨by rw[hb₂];simp,.cons _ _ _ _ (As.le.blk _ _ hb) ((hd.mono hst.le).mono As.le)⟩⟩
theorem Au {x x':Value} {l l':Nat} (hl:Γ.blk l=some (l',0)) (hx:aA Γ x x'):
  (∃ fn' f' c',x' = .func fn' ⟨f'⟩ ⟨c'⟩∧fD P Γ (g_ P x l) (invoke (.fn fn' ⟨c'⟩) ⟨f'++[.func (.yield l') ⟨[]⟩ ⟨[]⟩]⟩ >>= pure) (fun Γ fa nx=>∃ args',nx = .enter fa.1 ⟨args'⟩∧aF Γ fa.2 args'))∨
   ∃ why,g_ P x l = .fail why:=by
 cases hx with
 |func fn fn' f f' c c' hf hc hp=>
  refine .inl ⟨fn',f',c',rfl,fun W h n w hS=>?_⟩
  unfold g_
  refine aj.bind (qv (P:=P) hp hc (hf.append (.cons _ _ _ _ (.func _ _ _ _ _ _ .nil .nil (.yield _ _ hl)) .nil)) W h n w hS) ?_
  intro aS nx nx' hle Ef W h n w hS
  cases Ef with
  |enter f args args' ha=>exact aj.ok hS rfl ⟨args',rfl,ha⟩
  | _=>exact aj.fail
 | _=>exact .inr ⟨_,rfl⟩
theorem yf (hO:cr P O) (d_:gq P ev) (hlo:gP ev) {ro r:Option Nat} {lim:Nat} {g:Operand} {ps:Array Tmp} {assign body:Code} {m:Tm} {a:Act} {s s':HS} {x:aV×Tm} (e:eE P O ev ro lim g ps.toList assign body m s = .ok x s') (hl:lim≤s.next) (hw:Wf s)
  (hS:bh Γ W H w) (hx:Ext s.heap H) (hm:sA Γ m a) (hro:Ir Γ ro r) (hf:Free Γ s.next s'.next) {Q:Exit→Act→World→Prop}
  (hk:∀ aS w' a' H',Ex Γ aS lim s s' W H H' w'→sA aS x.2 a'→Q (vO x.1) a' w'):(Code.rangeFunc g ps assign body).wpIn (Fw r) 0 P Q a w:=by
 unfold eE at e
 cases hg:aX g with
 |false=>simp[hg] at e
 |true=>
  simp only[hg,cond_true] at e
  obtain⟨ld,s₁,e₁,e⟩:=bq e
  obtain⟨fa,s₂,e₂,e⟩:=bq e
  obtain⟨v,s₃,e₃,e⟩:=bq e
  obtain⟨y,s₄,e₄,e⟩:=bq e
  simp only[aH.ok.injEq] at e
  obtain⟨rfl,rfl⟩:=e
  obtain⟨hn₁,eU⟩:=eY (dJ _) e₁ hl hw
  obtain⟨hn₂,xX⟩:=eY (dJ _) e₂ (by omega) eU
  obtain⟨Sv,xY⟩:=eY (sy hlo _ _) e₃ (by omega) xX
  obtain⟨Sw,_⟩:=eY (dJ _) e₄ (by omega) xY
  refine wpIn_rangeFunc ?_
  intro fn _
  obtain⟨cB,w₁,lm,H₁,Jl,cD,hb₁,hd₁⟩:=mN (C9 (P:=P) (ps:=ps) (assign:=assign) (body:=body) fn hro hm.tm hm.df) e₁ hl hw hS hx (hf.sub (by omega))
  have hvg:aA cB (m.eval g) (a.eval g):=(sC hm.tm g hg).mono cD.le
  rcases Au (P:=P) hb₁ hvg with ⟨fn',f',c',aaW,aaX⟩ | ⟨why,SD⟩
  ·obtain⟨dA,w₂,nx,H₂,kg,dK,args',rfl,ha⟩:=mN aaX e₂ (by omega) eU cD.rel cD.sub (hf.after cD |>.sub (by omega))
   have jR:=cD.trans dK
   have hinv:(invoke (.fn fn' ⟨c'⟩) ⟨f'++[.func (.yield lm.1) ⟨[]⟩ ⟨[]⟩]⟩).run P w₁ = .ok (.enter fa.1 ⟨args'⟩) w₂:=by
    rw[Sem.run_bind] at kg
    cases hi:(invoke (.fn fn' ⟨c'⟩) ⟨f'++[.func (.yield lm.1) ⟨[]⟩ ⟨[]⟩]⟩).run P w₁ with
    |ok u w'=>rw[hi] at kg;simpa using kg
    |halt u w'=>rw[hi] at kg;simp[Result.andThen] at kg
   refine⟨lm.1,lm.2,w₁,{ target := .fn fn' ⟨c'⟩,args:=⟨f'++[.func (.yield lm.1) ⟨[]⟩ ⟨[]⟩]⟩ },w₁,fa.1,⟨args'⟩,w₂,Jl,?_,fun _ _=>trivial,hinv,fun h=>by simp[Fw] at h,?_⟩
   ·simp only[resolve,aaW]
    have oC:((⟨f'⟩:Array Value)++(rangeCall g lm.1).args.map a.eval)=⟨f'++[.func (.yield lm.1) ⟨[]⟩ ⟨[]⟩]⟩:=by
     apply Array.ext';simp[Act.eval]
    simp only[Deferred.ofValue,Sem.run_pure]
    rw[oC]
   ·refine CallsIn.mono (nR hO d_ hlo e₃ (by omega) xX dK.rel dK.sub ha (hf.after jR |>.sub (by omega)) r) ?_
    rintro en w₃ ⟨Sx,v',aaO,rfl,kj,_⟩
    have iQ:=jR.trans kj
    have EW:=(dK.le.trans kj.le).blk _ _ hb₁
    obtain⟨xZ,Jj,j,Nj,vP,vQ,rfl⟩:=mN (EV (P:=P) EW) e₄ (by omega) xY kj.rel kj.sub (hf.after iQ)
    have SE:=iQ.trans vQ
    have hfr:sA xZ { m with eS:=ld.2 } { a with defers:=lm.2++a.defers }:=by
     have hle:cB.le xZ:=(dK.le.trans kj.le).trans vQ.le
     exact⟨⟨hm.tm.size,(hm.tm.mono SE.le).get⟩,hd₁.mono hle⟩
    have q:=hk xZ Jj { a with defers:=lm.2++a.defers } Nj SE hfr
    refine⟨exitCode y,Jj,vP,?_⟩
    cases y with
    |normal=>exact q
    |ret=>exact wpIn_ret q
    |exit id=>exact wpIn_exit q
  ·rw[SD] at e₂;simp[AP.run] at e₂
theorem Av {F:Fence} {n:Nat} {Q:Exit→Act→World→Prop} {a:Act} {c:Code} (h:c.wpIn F n P (Exit.noGoto Q) a w):(Code.scope c).wpIn F n P Q a w:=by
 intro b k cs hro hb hr
 have h1:step P (lone (b.atR a (.code (.scope c)::k)) cs w) = .next (lone (b.atR a (.code c :: .inScope c::k)) cs w):=step_lone_go (by simp[stepG,stepG.exec,Frame.atR])
 have h2:∀ a w,step P (lone (b.atR a (.inScope c::k)) cs w) = .next (lone (b.atR a k) cs w):=fun a w=>step_lone_go (by simp[stepG,stepG.exec,Frame.atR])
 have h0:(lone (b.atR a (.code (.scope c)::k)) cs w).fenced P F:=fenced_calm hb hr rfl
 obtain⟨e,a₁,w₁,hq,oC⟩:=h b (.inScope c::k) cs hro hb hr
 have hx:∀ id,exitTo id (.inScope c::k)=exitTo id k:=fun id=>by simp[exitTo]
 cases e with
 |normal=>exact⟨.normal,a₁,w₁,hq,.head h0 h1 (StepsIn.trans oC (.one (fenced_calm hb hr rfl) (h2 _ _)))⟩
 |exit id=>
  exact⟨.exit id,a₁,w₁,hq,fun k' hk => .head h0 h1 (oC.1 k' (by rw[hx];exact hk)),
   fun hr' hk=>let ⟨k₁,q1,q2⟩:=oC.2 hr' (by rw[hx];exact hk);⟨k₁,q1,.head h0 h1 q2⟩⟩
 |goto l=>exact hq.elim
 |ret=>exact⟨_,a₁,w₁,hq,.of_steps (.one h0 h1) oC⟩
 |panic ch=>exact⟨_,a₁,w₁,hq,.of_steps (.one h0 h1) oC⟩
 |outgrown=>exact⟨_,a₁,w₁,hq,.of_steps (.one h0 h1) oC⟩
def vT (P:Program) (O:Over) (k:Nat):Prop:=
 ∀ ro lim c m s x s',jW P O k ro lim (.loop c) m s = .ok x s'→lim≤s.next→Wf s→∀ Γ W w a r H,bh Γ W H w→Ext s.heap H→sA Γ m a→Ir Γ ro r→Free Γ s.next s'.next→
  ∀ Q:Exit→Act→World→Prop,(∀ aS w' a' H',Ex Γ aS lim s s' W H H' w'→sA aS x.2 a'→Q (vO x.1) a' w')→Code.roundsIn (Fw r) 0 P c Q k a w
theorem uJ (d_:gq P ev) (hlo:gP ev) {E2:fU} (Np:gP E2) {ro:Option Nat} {lim:Nat} {c d:Code} {m:Tm} {s s':HS} {x:aV×Tm}
  (e:bH (ev ro lim c m s) (fun x s=>match x.1 with | .normal=>E2 ro lim d x.2 s | _ => .ok x s) = .ok x s') (hl:lim≤s.next) (hw:Wf s) {a:Act} {r:Option Nat}
  (hS:bh Γ W H w) (hx:Ext s.heap H) (hm:sA Γ m a) (hro:Ir Γ ro r) (hf:Free Γ s.next s'.next) {Q:Exit→Act→World→Prop} {K:Act→World→Prop}
  (hK:∀ x₁ s₁,E2 ro lim d x₁ s₁ = .ok x s'→lim≤s₁.next→Wf s₁→∀ cB w₁ a₁ H₁,Ex Γ cB lim s s₁ W H H₁ w₁→sA cB x₁ a₁→K a₁ w₁)
  (hk:∀ aS w' a' H',Ex Γ aS lim s s' W H H' w'→sA aS x.2 a'→Q (vO x.1) a' w'):c.wpIn (Fw r) 0 P (Exit.then K Q) a w:=by
 obtain⟨x₁,s₁,e₁,e₂⟩:=bq e
 obtain⟨hn₁,eU⟩:=eY (hlo _ _ _ _) e₁ hl hw
 have hn₂:s₁.next≤s'.next:=by
  cases hx1:x₁.1 with
  |normal=>simp only[hx1] at e₂;exact(eY (Np _ _ _ _) e₂ (by omega) eU).1
  |ret=>simp only[hx1,aH.ok.injEq] at e₂;rw[e₂.2];exact Nat.le_refl _
  |exit id=>simp only[hx1,aH.ok.injEq] at e₂;rw[e₂.2];exact Nat.le_refl _
 refine d_ ro lim c m s x₁ s₁ e₁ hl hw Γ W w a r H hS hx hm hro (hf.sub hn₂) _ ?_
 intro cB w₁ a₁ H₁ hex hfr
 cases hx1:x₁.1 with
 |normal=>
  simp only[hx1] at e₂
  exact hK x₁.2 s₁ e₂ (by omega) eU cB w₁ a₁ H₁ hex hfr
 |ret=>
  simp only[hx1,aH.ok.injEq] at e₂
  obtain⟨rfl,rfl⟩:=e₂
  have:=hk cB w₁ a₁ H₁ hex hfr
  rw[hx1] at this;exact this
 |exit id=>
  simp only[hx1,aH.ok.injEq] at e₂
  obtain⟨rfl,rfl⟩:=e₂
  have:=hk cB w₁ a₁ H₁ hex hfr
  rw[hx1] at this;exact this
theorem Aw (hO:cr P O) (nk:P.follows .mixedOrders=true) {k:Nat} (d_:gq P (jW P O k)) (hlp:vT P O k):gq P (jW P O (k+1))∧vT P O (k+1):=by
 have hlo:gP (jW P O k):=pH k
 have hL:vT P O (k+1):=by
  intro ro lim c m s x s' e hl hw Γ W w a r H hS hx hm hro hf Q hk
  rw[roundsIn_succ]
  refine uJ d_ hlo hlo (d := .loop c) e hl hw hS hx hm hro hf (fun x₁ s₁ e₁ hl₁ eU cB w₁ a₁ H₁ hex hfr=>?_) hk
  exact hlp ro lim c x₁ s₁ x s' e₁ hl₁ eU cB W w₁ a₁ r H₁ hex.rel hex.sub hfr (hro.mono hex.le) (hf.after hex) Q fun dA w₂ a₂ H₂ dK Ay=>hk dA w₂ a₂ H₂ (hex.trans dK) Ay
 refine⟨?_,hL⟩
 intro ro lim c m s x s' e hl hw Γ W w a r H hS hx hm hro hf Q hk
 cases c with
 |loop c=>exact wpIn_loop_rounds (k+1) (hL ro lim c m s x s' e hl hw Γ W w a r H hS hx hm hro hf Q hk)
 |skip=>
  have e:aH.ok (aV.normal,m) s = .ok x s':=e
  simp only[aH.ok.injEq] at e
  obtain⟨rfl,rfl⟩:=e
  exact wpIn_skip (hk Γ w a H (Ex.refl hS hx) hm)
 |label l=>
  have e:aH.ok (aV.normal,m) s = .ok x s':=e
  simp only[aH.ok.injEq] at e
  obtain⟨rfl,rfl⟩:=e
  exact wpIn_label (hk Γ w a H (Ex.refl hS hx) hm)
 |exit id=>
  have e:aH.ok (aV.exit id,m) s = .ok x s':=e
  simp only[aH.ok.injEq] at e
  obtain⟨rfl,rfl⟩:=e
  exact wpIn_exit (hk Γ w a H (Ex.refl hS hx) hm)
 |ret=>
  have e:aH.ok (aV.ret,m) s = .ok x s':=e
  simp only[aH.ok.injEq] at e
  obtain⟨rfl,rfl⟩:=e
  exact wpIn_ret (hk Γ w a H (Ex.refl hS hx) hm)
 |region id ops draw=>
  obtain⟨ops⟩:=ops
  have e:bH (cond draw (eD P O (jW P O k) lim ops m s) (gX P O (jW P O k) lim ops ops m s)) (fun m s => .ok (.normal,m) s) = .ok x s':=e
  obtain⟨m₁,s₁,e₁,e₂⟩:=bq e
  simp only[aH.ok.injEq] at e₂
  obtain⟨rfl,rfl⟩:=e₂
  cases draw with
  |true=>exact Ar hO d_ hlo nk e₁ hl hw hS hx hm hf r hk
  |false=>
   refine wpIn_region ?_
   have:List.range (⟨ops⟩:Array Oper).size=List.range' 0 ops.length:=by simp[List.range_eq_range']
   rw[this]
   exact uI hO d_ hlo ops 0 Γ w m m₁ a s s₁ H rfl e₁ hl hw hS hx hm hf hk
 |seq c d=>
  refine wpIn_seq ?_
  refine uJ d_ hlo hlo (d:=d) e hl hw hS hx hm hro hf (fun x₁ s₁ e₁ hl₁ eU cB w₁ a₁ H₁ hex hfr=>?_) hk
  exact d_ ro lim d x₁ s₁ x s' e₁ hl₁ eU cB W w₁ a₁ r H₁ hex.rel hex.sub hfr (hro.mono hex.le) (hf.after hex) Q fun dA w₂ a₂ H₂ dK Ay=>hk dA w₂ a₂ H₂ (hex.trans dK) Ay
 |cond g c d=>
  have e:cond (aX g) (match m.eval g with
   | .bool true=>jW P O k ro lim c m s
   | .bool false=>jW P O k ro lim d m s
   | _ => .fail "cond") (.fail "cond") = .ok x s':=e
  cases hg:aX g with
  |false=>simp[hg] at e
  |true=>
   simp only[hg,cond_true] at e
   have hv:=sC hm.tm g hg
   split at e
   ·rename_i he
    rw[he] at hv
    cases hu:a.eval g<;>rw[hu] at hv<;>cases hv
    exact wpIn_cond_true hu (d_ ro lim c m s x s' e hl hw Γ W w a r H hS hx hm hro hf Q hk)
   ·rename_i he
    rw[he] at hv
    cases hu:a.eval g<;>rw[hu] at hv<;>cases hv
    exact wpIn_cond_false hu (d_ ro lim d m s x s' e hl hw Γ W w a r H hS hx hm hro hf Q hk)
   ·simp at e
 |block id c=>
  have e:bH (jW P O k ro lim c m s) (fun x s=>match x.1 with
   | .exit i => .ok (cond (Nat.beq i id) .normal (.exit i),x.2) s
   | _ => .ok x s) = .ok x s':=e
  obtain⟨x₁,s₁,e₁,e₂⟩:=bq e
  have hs:s₁=s'∧x.2=x₁.2:=by
   cases hx1:x₁.1 with
   |normal=>simp only[hx1,aH.ok.injEq] at e₂;exact⟨e₂.2,by rw[←e₂.1]⟩
   |ret=>simp only[hx1,aH.ok.injEq] at e₂;exact⟨e₂.2,by rw[←e₂.1]⟩
   |exit i=>simp only[hx1,aH.ok.injEq] at e₂;exact⟨e₂.2,by rw[←e₂.1]⟩
  obtain⟨rfl,hx2⟩:=hs
  refine wpIn_block ?_
  refine d_ ro lim c m s x₁ s₁ e₁ hl hw Γ W w a r H hS hx hm hro hf _ ?_
  intro cB w₁ a₁ H₁ hex hfr
  have q:=hk cB w₁ a₁ H₁ hex (by rw[hx2];exact hfr)
  cases hx1:x₁.1 with
  |normal=>simp only[hx1,aH.ok.injEq] at e₂;rw[←e₂.1,hx1] at q;exact q
  |ret=>simp only[hx1,aH.ok.injEq] at e₂;rw[←e₂.1,hx1] at q;exact q
  |exit i=>
   simp only[hx1,aH.ok.injEq] at e₂
   rw[←e₂.1] at q
   show if i=id then Q .normal a₁ w₁ else Q (.exit i) a₁ w₁
   cases hb:Nat.beq i id with
   |true=>
    have:=Nat.eq_of_beq_eq_true hb
    subst this
    rw[hb] at q
    rw[if_pos rfl];exact q
   |false=>
    rw[hb] at q
    have:i≠id:=fun h=>by rw[h,Nat.beq_refl] at hb;exact Bool.noConfusion hb
    rw[if_neg this];exact q
 |scope c=>
  have e:jW P O k ro lim c m s = .ok x s':=e
  refine Av ?_
  refine d_ ro lim c m s x s' e hl hw Γ W w a r H hS hx hm hro hf _ ?_
  intro cB w₁ a₁ H₁ hex hfr
  have q:=hk cB w₁ a₁ H₁ hex hfr
  cases hx1:x.1<;>rw[hx1] at q<;>exact q
 |rangeFunc g ps assign body=>exact yf hO d_ hlo e hl hw hS hx hm hro hf hk
 | _=>
  have e:(aH.fail "code":aH (aV×Tm)) = .ok x s':=e
  simp at e
theorem oI (hO:cr P O) (nk:P.follows .mixedOrders=true):∀ k,gq P (jW P O k)∧vT P O k
 |0=>⟨fun ro lim c m s x s' e=>by
   have e:(aH.fail "fuel":aH (aV×Tm)) = .ok x s':=e
   simp at e,fun ro lim c m s x s' e=>by
   have e:(aH.fail "fuel":aH (aV×Tm)) = .ok x s':=e
   simp at e⟩
 |k+1=>let ⟨h1,h2⟩:=oI hO nk k;Aw hO nk h1 h2
end
def vU (W w':World):Prop:=W.keptBut w' (fun _=>False)∧(∀ a,a.block<W.heap.size→w'.frozen? a=W.frozen? a)∧W.heap.size≤w'.heap.size
theorem vU.frame {W w':World} (h:vU W w') (may:MemPlace→Prop):W.keptBut w' may:=World.keptBut_mono (fun _ f=>f.elim) h.1
theorem um {H:Type} {enc:TypeId×Value→H} {P:Program} {f:Func} {s:ChangeSpec} {apart fresh handsOn again:Bool} {W W':World} {args:Array Value} {v:Value} {ds gs:List (DataW H)} {before pa pv:List MemPlace}
  (hW:DataW.Whole enc P f.params.toList s.vars apart W args.toList ds gs before)
  (hres:∀ (b:Nat) (sp:Nat→Bool) (hd:Bool),DataW.TrodAll enc P W' b sp hd f.resultTypes.toList (v.resultList f.resultTypes.size) (s.fn H (ds++gs)).results [])
  (hargs:∀ sp:Nat→Bool,(∀ p∈before,sp p.block=true)→DataW.TrodAll enc P W' 0 sp true f.params.toList args.toList (s.fn H (ds++gs)).args pa)
  (hvars:∀ sp:Nat→Bool,(∀ p∈before,sp p.block=true)→DataW.TrodVars enc P W' sp s.vars (s.fn H (ds++gs)).vars pv)
  (hps:before=pa++pv) (hg:vU W W')
  (hok:∀ (j:Nat) (t:TypeId) (r:Value),f.resultTypes[j]? = some t→(v.resultList f.resultTypes.size)[j]? = some r→Value.okWide P W' .any 0 t r):
  s.post enc P f apart fresh handsOn again W args v W':=by
 have fP:∀ p∈before,p.block<W.heap.size:=fun p hp=>by simpa using hW.lt p hp
 have hold:∀ p∈before,(fun b=>decide (b<W.heap.size)) p.block=true:=fun p hp=>by simpa using fP p hp
 refine⟨ds,gs,before,[],pa,pv,hW,hres _ _ _,hargs _ hold,hvars _ hold,World.keptBut_mono (fun p hp=>⟨hp,?_⟩) (hg.frame (·∈before)),fun _=>?_⟩
 ·rw[hps,List.mem_append] at hp
  exact Or.inr hp
 ·obtain⟨_,_,_,_,_,hz,hn⟩:=hW
  refine⟨hok,_,_,([]++pa)++pv,⟨[]++pa,pv,trodAll_append (hargs _ (fun _ _=>rfl)) (hres _ _ _),hvars _ (fun _ _=>rfl),rfl,?_,?_⟩,?_⟩
  ·intro b off hp
   have hm:MemPlace.cell b off∈before:=by rw[hps];simpa using hp
   rw[hg.2.1 _ (fP _ hm)]
   exact hz b off hm
  ·intro ha
   have:=hn ha
   rw[hps] at this
   simpa using this
  ·intro p hp _
   rw[hps]
   simpa using hp
end Go.Am
