/-
A part.
-/
import Derived.Test.YtofmbmclopgldaaGreatAmS
set_option linter.all false
namespace Go.Am
open Go.RowKit
section
variable {P:Program} {O:Over} {ev:iL} {Γ:bL} {W w:World}
theorem bE{α β:Type}{r:aO α}{k:α→HS→aO β}{b:β}{s':HS}(h:bP r k = .ok b s'):∃ a s,r = .ok a s∧k a s = .ok b s':=by
 unfold bP at h;split at h
 ·exact⟨_,_,rfl,h⟩
 ·simp at h
theorem SA{args args':List Value}(ha:aM Γ args args')(k:Nat):ij Γ ⟨args.length+(k-args.length),PT.ofList .leaf 0 args,[]⟩ ((⟨args'⟩:Array Value)++Array.replicate (k-(⟨args'⟩:Array Value).size) undef):=by
 have hlen:=ha.length;refine⟨by simp[hlen],fun i=>?_⟩
 show aD Γ (match (PT.ofList .leaf 0 args).get i with |some v=>v |none => .tuple ⟨[]⟩) _
 rw[PT.aQ,Array.getD_eq_getD_getElem?];by_cases hi:i<args.length
 ·obtain⟨v,hv⟩:∃ v,args[i]? = some v:=⟨args[i],by simp[hi]⟩;obtain⟨v',hv',hr⟩:=ha.get hv;rw[hv,Array.getElem?_append_left (by simp[hlen];exact hi)];have:(⟨args'⟩:Array Value)[i]? = some v':=by simpa using hv'
  rw[this];exact hr
 ·rw[List.getElem?_eq_none qJ];rw[Array.getElem?_append_right (by simp[hlen];omega)];have:(Array.replicate (k-(⟨args'⟩:Array Value).size) undef)[i-(⟨args'⟩:Array Value).size]?.getD undef=undef:=by
   rw[Array.getElem?_replicate];split<;>rfl
  rw[this];exact .tuple _ _ .nil
theorem qX(fY:iY P ev)(hlo:jz ev){lim:Nat}{f:FuncId}{args args':List Value}{s s':HS}{v:Value}{H:PT aj}(e:gV P ev lim f args s = .ok v s')(hl:lim≤s.next)(hw:Wf s)
  (hS:bK Γ W H w) (hx:Ext s.heap H) (ha:aM Γ args args') (hf:Free Γ s.next s'.next) (r:Option Nat):
  CallsIn (Fw r) 0 P f ⟨args'⟩ w fun e w'=>∃ aY v' H',e = .returned v'∧Ex Γ aY lim s s' W H H' w'∧aD aY v v':=by
 unfold gV at e;cases hfn:P.funcs[f]? with
 |none=>simp[hfn] at e
 |some fn=>
  simp only[hfn] at e;cases hb:fn.body with
  |none=>simp[hb] at e
  |some c=>
   simp only[hb] at e;obtain⟨x,s₁,e₁,e₂⟩:=bE e;obtain⟨hn₁,gY⟩:=g_ (hlo _ _ _ _) e₁ hl hw;have hn₂:=(g_ (tS (P:=P) (lim:=lim) _ _) e₂ (Nat.le_trans hl hn₁) gY).1;have key:CallsIn Fence.wide 0 P f ⟨args'⟩ w fun e w'=>∃ aY v' H',e = .returned v'∧Ex Γ aY lim s s' W H H' w'∧aD aY v v':=by
    refine callsIn_of_wp_marks hfn hb trivial ?_;refine fY none lim c _ s x s₁ e₁ hl hw Γ W w { tmps:=(⟨args'⟩:Array Value)++Array.replicate (fn.ntmps-(⟨args'⟩:Array Value).size) undef,defers:=[] } none H hS hx ⟨SA ha _,.nil⟩ .no (hf.sub hn₂) _ ?_;intro aY w' a' H₁ hex hfr;obtain⟨H₂,e₂,acX,acY,_,_,X_⟩:=xl (tS (P:=P) (lim:=lim) _ _) e₂ (Nat.le_trans hl hn₁) gY hex.sub;unfold iH at e₂;have fin:bP (fB lim x.2.fF ⟨H₁,s₁.next,s₁.rd,s₁.wr⟩) (fun _ s=>bP (cD P lim x.2 fn.results.toList s) fun l s => .ok (oneOf l) s) = .ok v ⟨H₂,s'.next,s'.rd,s'.wr⟩→
      LeavesInM Fence.wide 0 P fn a'.tmps (fun e w'=>∃ aY v' H',e = .returned v'∧Ex Γ aY lim s s' W H H' w'∧aD aY v v') a'.defers .returning w':=by
     intro e₃;obtain⟨_,s₂,e₄,e₅⟩:=bE e₃;obtain⟨l,s₃,e₆,acZ⟩:=bE e₅;simp only[aO.ok.injEq] at acZ;obtain⟨rfl,rfl⟩:=acZ;obtain⟨g1,g2⟩:=zW (P:=P) (fn:=fn) (R:=fun e w'=>∃ aY v' H',e = .returned v'∧Ex Γ aY lim s s' W H H' w'∧aD aY (oneOf l) v') x.2.fF a'.defers ⟨H₁,s₁.next,s₁.rd,s₁.wr⟩ s₂ _ l w' hfr.tm hfr.df hex.rel e₄ e₆;have g1:s'.next=s₁.next:=g1;refine g2 fun w₂ v' Dw hv=>⟨aY,v',H₂,rfl,hex.trans ⟨.refl _,Dw,fun i hi=>rfl,acX,acY,by omega,X_⟩,hv⟩
    cases hx:x.1 with
    |exit id=>simp[hx] at e₂
    |normal=>simp only[hx] at e₂;exact fin e₂
    |ret=>simp only[hx] at e₂;exact fin e₂
   exact key
def cU(P:Program)(O:Over):Prop:=
 ∀ f args m,O f args=some m→∀ (Γ:bL) (W w:World) (h:PT aj) (n lim:Nat) (rd wr:List Nat) (args':List Value) (v:Value) (s':HS),aM Γ args args'→bK Γ W h w→m.run lim ⟨h,n,rd,wr⟩ = .ok v s'→Free Γ n s'.next→
  CallsIn Fence.wide 0 P f ⟨args'⟩ w fun e w'=>∃ aY v',e = .returned v'∧Γ.le aY∧bK aY W s'.heap w'∧(∀ i,¬(n≤i∧i<s'.next)→aY.blk i=Γ.blk i)∧aD aY v v'
theorem qY(hO:cU P O)(fY:iY P ev)(hlo:jz ev){lim:Nat}{f:FuncId}{args args':List Value}{s s':HS}{v:Value}{H:PT aj}(e:fT P O ev lim f args s = .ok v s')(hl:lim≤s.next)(hw:Wf s)
  (hS:bK Γ W H w) (hx:Ext s.heap H) (ha:aM Γ args args') (hf:Free Γ s.next s'.next) (r:Option Nat):
  CallsIn (Fw r) 0 P f ⟨args'⟩ w fun e w'=>∃ aY v' H',e = .returned v'∧Ex Γ aY lim s s' W H H' w'∧aD aY v v':=by
 unfold fT at e;cases hO':O f args with
 |none=>simp only[hO'] at e;exact qX fY hlo e hl hw hS hx ha hf r
 |some m=>
  simp only[hO'] at e;obtain⟨H',e',h6,h7,h8,_,h9⟩:=xl (eZ m) e hl hw hx;have:=hO f args m hO' Γ W w H s.next lim s.rd s.wr args' v _ ha hS e' hf;have key:CallsIn Fence.wide 0 P f ⟨args'⟩ w fun e w'=>∃ aY v' H',e = .returned v'∧Ex Γ aY lim s s' W H H' w'∧aD aY v v':=by
   refine CallsIn.mono this ?_;rintro en w' ⟨aY,v',rfl,h2,h3,h4,h5⟩;exact⟨aY,v',H',rfl,⟨h2,h3,h4,h6,h7,h8,h9⟩,h5⟩
  exact key
theorem ny{h:PT aj}(hS:bK Γ W h w){l l':Nat}(hl:Γ.blk l=some (l',0)){st:LoopState}{h_:Option Code}{tm:Tm}{ps:List Tmp}{as bd:Code}(hb:h.get l=some (.loop st h_ tm ps as bd)):
  ∃ L:Loop,w.heap[l']? = some (.loop L)∧L.state=st∧L.pending=h_∧ij Γ tm L.tmps∧L.params.toList=ps∧L.assign=as∧L.body=bd:=by
 obtain⟨b,s,e,⟨rfl,L,hL⟩,_⟩:=hS.live _ _ hb;rw[hl] at e;obtain⟨rfl,_⟩:l'=b∧0=0:=by simpa using e
 exact⟨L,hL⟩
theorem xp{h:PT aj}(hS:bK Γ W h w){l l':Nat}(hl:Γ.blk l=some (l',0)){st st':LoopState}{h_ Dx:Option Code}{tm:Tm}{ps:List Tmp}{as bd:Code}(hb:h.get l=some (.loop st h_ tm ps as bd))
  {L:Loop} (hL:w.heap[l']? = some (.loop L)) (h4:ij Γ tm L.tmps) (h5:L.params.toList=ps) (h6:L.assign=as) (h7:L.body=bd):
  bK Γ W (h.set l (some (.loop st' Dx tm ps as bd))) { w with heap:=w.heap.setIfInBounds l' (.loop { L with state:=st',pending:=Dx }) }:=
 hS.wP hb hl trivial trivial (fun w' ⟨_,L,q,_⟩=>⟨_,q,rfl⟩) rfl (fun w' q=>⟨rfl,_,q,rfl,rfl,h4,h5,h6,h7⟩)
theorem J2{l l':Nat}(hl:Γ.blk l=some (l',0)):iA P Γ (tP l) (Instr.beginRound l') (fun _ _ _=>True):=by
 intro W h n w hS;unfold tP;refine ak.get fun B hB=>?_;split
 ·rename_i h_ tm ps as bd;obtain⟨L,h1,h2,h3,h4,h5,h6,h7⟩:=ny hS hl hB;have ku:=xp (st' := .busy) (Dx:=h_) hS hl hB h1 h4 h5 h6 h7;refine ak.set (e':=pure ()) ?_ (ak.ok ku rfl trivial);have Bm:(Instr.getLoop l').run P w = .ok L w:=by simp[Instr.getLoop,getObj,Sem.run,h1]
  have Ft:∀ o,(setObj l' o).run P w = .ok () { w with heap:=w.heap.setIfInBounds l' o }:=fun o=>by simp[setObj,Sem.run,h1]
  have hLp:({ L with state:=LoopState.busy,pending:=h_ }:Loop)={ L with state := .busy }:=by rw[←h3]
  rw[hLp];simp[Instr.beginRound,Bm,Ft,h2]
 ·exact ak.fail
theorem SB{l l':Nat}(hl:Γ.blk l=some (l',0))(jump:Option Code):iA P Γ (Bc l jump) (Instr.endRound l' jump) aD:=by
 intro W h n w hS;unfold Bc;refine ak.get fun B hB=>?_;split
 ·rename_i st h_ tm ps as bd;obtain⟨L,h1,h2,h3,h4,h5,h6,h7⟩:=ny hS hl hB;have ku:=xp (st':=cond jump.isNone .ready .done) (Dx:=jump) hS hl hB h1 h4 h5 h6 h7;refine ak.set (e':=pure (.bool jump.isNone)) ?_ (ak.ok ku rfl (.bool _));have Bm:(Instr.getLoop l').run P w = .ok L w:=by simp[Instr.getLoop,getObj,Sem.run,h1]
  have Ft:∀ o,(setObj l' o).run P w = .ok () { w with heap:=w.heap.setIfInBounds l' o }:=fun o=>by simp[setObj,Sem.run,h1]
  simp only[Instr.endRound,Sem.run_bind,Bm,Result.andThen_ok,Ft,Sem.run_pure];cases jump<;>rfl
 ·exact ak.fail
theorem MA{l l':Nat}(hl:Γ.blk l=some (l',0)):iA P Γ (wL l) (Instr.endLoop l') (fun _ x j=>j=exitCode x):=by
 intro W h n w hS;unfold wL;refine ak.get fun B hB=>?_;cases B with
 |loop st h_ tm ps as bd=>
  obtain⟨L,h1,h2,h3,h4,h5,h6,h7⟩:=ny hS hl hB;have Bm:(Instr.getLoop l').run P w = .ok L w:=by simp[Instr.getLoop,getObj,Sem.run,h1]
  have Ft:∀ o,(setObj l' o).run P w = .ok () { w with heap:=w.heap.setIfInBounds l' o }:=fun o=>by simp[setObj,Sem.run,h1]
  have hLp:({ L with state:=LoopState.exhausted,pending:=h_ }:Loop)={ L with state := .exhausted }:=by rw[←h3]
  have ku:=xp (st' := .exhausted) (Dx:=h_) hS hl hB h1 h4 h5 h6 h7;rw[hLp] at ku;have hrun:st ≠ .busy→(Instr.endLoop l').run P w = .ok h_ { w with heap:=w.heap.setIfInBounds l' (.loop { L with state := .exhausted }) }:=by
   intro hst;have:(L.state==LoopState.busy)=false:=by rw[h2];cases st<;>first|rfl|exact absurd rfl hst
   simp only[Instr.endLoop,Sem.run_bind,Bm,Result.andThen_ok,this,Bool.false_eq_true,if_false,Ft,Sem.run_pure,h3]
  have fin:st ≠ .busy→ak P Γ W h n w (match h_ with
    |none => .set l (.loop .exhausted none tm ps as bd) (.pure .normal)
    |some .ret => .set l (.loop .exhausted (some .ret) tm ps as bd) (.pure .ret)
    |some (.exit id) => .set l (.loop .exhausted (some (.exit id)) tm ps as bd) (.pure (.exit id))
    |some _ => .fail "range jump") (Instr.endLoop l') (fun _ x j=>j=exitCode x):=by
   intro hst;have hrun:=hrun hst;split
   ·exact ak.set (e':=pure none) hrun (ak.ok ku rfl rfl)
   ·exact ak.set (e':=pure (some .ret)) hrun (ak.ok ku rfl rfl)
   ·exact ak.set (e':=pure (some (.exit _))) hrun (ak.ok ku rfl rfl)
   ·exact ak.fail
  cases st with
  |busy=>exact ak.fail
  |ready=>exact fin (by simp)
  |done=>exact fin (by simp)
  |exhausted=>exact fin (by simp)
 | _=>exact ak.fail
theorem Dy(fY:iY P ev)(hlo:jz ev){lim:Nat}{l l':Nat}{m:Tm}{fn:FuncId}{tmps:Array Value}{as bd:Code}{s s':HS}{v:Value}{H:PT aj}(e:ga ev lim l m as bd s = .ok v s')(hl:lim≤s.next)(hw:Wf s)
  (hS:bK Γ W H w) (hx:Ext s.heap H) (hb:Γ.blk l=some (l',0)) (ht:ij Γ m tmps) (hd:m.fF=[]) (hf:Free Γ s.next s'.next) (r:Option Nat):
  RoundIn (Fw r) 0 P l' fn tmps as bd w fun e w'=>∃ aY v' H',e = .returned v'∧Ex Γ aY lim s s' W H H' w'∧aD aY v v':=by
 unfold ga at e;obtain⟨x,s₁,e₁,e₂⟩:=bE e;obtain⟨hn₁,gY⟩:=g_ (hlo _ _ _ _) e₁ hl hw;cases hx1:x.1 with
 |exit id=>simp[hx1] at e₂
 |ret=>simp[hx1] at e₂
 |normal=>
  simp only[hx1] at e₂;obtain⟨_,s₂,e₃,e₄⟩:=bE e₂;obtain⟨hn₂,Dz⟩:=g_ (eZ _) e₃ (Nat.le_trans hl hn₁) gY;obtain⟨y,s₃,e₅,e₆⟩:=bE e₄;obtain⟨ac0,DA⟩:=g_ (hlo _ _ _ _) e₅ qJ Dz;have ac1:=(g_ (eZ _) e₆ qJ DA).1;refine roundIn_of_wpIn trivial ?_;refine fY (some l) lim as m s x s₁ e₁ hl hw Γ W w { tmps,defers:=[] } (some l') H hS hx ⟨ht,by rw[hd];exact .nil⟩ (.yes _ _ hb) (hf.sub qJ) _ ?_;intro cW w₁ a₁ H₁ dm Ya;rw[hx1]
  show ∃ w₂,_∧_
  have hb₁:=dm.le.blk _ _ hb;obtain⟨eP,w₂,_,H₂,nB,fc,_⟩:=qa (J2 (P:=P) hb₁) e₃ qJ gY dm.rel dm.sub (hf.after dm |>.sub qJ);refine⟨w₂,nB,?_⟩;have me:=dm.trans fc;refine fY (some l) lim bd x.2 s₂ y s₃ e₅ qJ Dz eP W w₂ a₁ (some l') H₂ fc.rel fc.sub (Ya.mono fc.le) (.yes _ _ (fc.le.blk _ _ hb₁)) (hf.after me |>.sub qJ) _ ?_;intro ac2 w₃ a₃ apf nC apg;have kC:=me.trans nC;have MB:=kC.le.blk _ _ hb;obtain⟨DB,SC,v',Yb,Br,Bt,hv⟩:=qa (SB (P:=P) MB (exitCode y.1)) e₆ qJ DA nC.rel nC.sub (hf.after kC);have fin:∃ v w',(Instr.endRound l' (exitCode y.1)).run P w₃ = .ok v w'∧(fun e w'=>∃ aY v' H',e=Ending.returned v'∧Ex Γ aY lim s s' W H H' w'∧aD aY _ v') (.returned v) w':=
   ⟨v',SC,Br,DB,v',Yb,rfl,kC.trans Bt,hv⟩
  cases hy:y.1 with
  |normal=>rw[hy] at fin;exact fin
  |ret=>rw[hy] at fin;exact fin
  |exit id=>rw[hy] at fin;exact fin
theorem MC{o:Oper}(h:∀ c,o.op ≠ .defer c)(r:Option Nat)(ρ:Operand→Value):o.semAt r ρ=execOp ρ o:=Oper.semAt_eq r ρ o h
theorem J3{ρ:Operand→Value}{o:Oper}{c:Call}(h:o.op = .defer c):k7 P ρ o = .fail "operation":=by
 unfold k7;rw[h]
theorem J4(hO:cU P O)(fY:iY P ev)(hlo:jz ev){lim:Nat}{ρ:Operand→Value}{o:Oper}{a:Act}{s s':HS}{v:Value}{H:PT aj}(e:jr P O ev lim ρ o s = .ok v s')(hl:lim≤s.next)(hw:Wf s)
  (hS:bK Γ W H w) (hx:Ext s.heap H) (hρ:∀ x,x∈o.op.operands→bz x=true→aD Γ (ρ x) (a.eval x)) (hf:Free Γ s.next s'.next) (r:Option Nat) {next:Act→World→Prop} {Q:Exit→Act→World→Prop}
  (hk:∀ aY w' v' H',Ex Γ aY lim s s' W H H' w'→aD aY v v'→next (a.put o.dst v') w'):o.wpIn (Fw r) 0 P a w next Q:=by
 unfold jr at e;cases hfl:o.op.operands.toList.all bz with
 |false=>simp[hfl] at e
 |true=>
  simp only[hfl,cond_true] at e;obtain⟨x,s₁,e₁,e₂⟩:=bE e;obtain⟨hn₁,gY⟩:=g_ (eZ _) e₁ hl hw;have hn₂:=(g_ (Ds (P:=P) (lim:=lim) hlo x) e₂ (Nat.le_trans hl hn₁) gY).1;have aph:∀ x∈o.op.operands,aD Γ (ρ x) (a.eval x):=fun x hx=>hρ x hx (List.all_eq_true.1 hfl x (by simpa using hx));obtain⟨cW,w₁,nx,H₁,hrun,dm,zq⟩:=qa (Sv (P:=P) aph) e₁ hl hw hS hx (hf.sub hn₂);have hnd:∀ c,o.op ≠ .defer c:=fun c hc=>by rw[J3 hc] at e₁;simp[AP.run] at e₁
  refine⟨fun _ _=>trivial,?_⟩;rw[MC hnd,hrun];have VY:=hf.after dm;cases zq with
  |value _ v' hv=>
   simp only[fU,aO.ok.injEq] at e₂;obtain⟨rfl,rfl⟩:=e₂;exact hk cW w₁ v' H₁ dm hv
  |skip=>
   simp only[fU,aO.ok.injEq] at e₂;obtain⟨rfl,rfl⟩:=e₂;exact hk cW w₁ undef H₁ dm (.tuple _ _ .nil)
  |enter f args args' ha=>
   refine⟨fun h=>by simp[Fw] at h,?_⟩;refine CallsIn.mono (qY hO fY hlo e₂ qJ gY dm.rel dm.sub ha VY r) ?_;rintro en w₂ ⟨eP,v',H₂,rfl,fc,hv⟩;exact hk eP w₂ v' H₂ (dm.trans fc) hv
  |round l l' m fn tmps as bd hb ht hd=>
   refine⟨fun h=>by simp[Fw] at h,?_⟩;refine RoundIn.mono (Dy fY hlo e₂ qJ gY dm.rel dm.sub hb ht hd VY r) ?_;rintro en w₂ ⟨eP,v',H₂,rfl,fc,hv⟩;exact hk eP w₂ v' H₂ (dm.trans fc) hv
theorem DC{ops:List Oper}{m:Tm}{tmps:Array Value}(hm:ij Γ m tmps)(j:Nat):yielded ⟨ops⟩ tmps j=ig ops m j:=by
 unfold yielded ig;have:(⟨ops⟩:Array Oper)[j]? = ops[j]? := by simp
 rw[this];cases ops[j]? with
 |none=>rfl
 |some o=>
  cases hd:o.dst with
  |none=>simp[hd]
  |some d=>
   simp only[Option.bind_some,hd];have hr:aD Γ (m.get d) (tmps.getD d undef):=hm.get d;rw[Array.getD_eq_getD_getElem?] at hr;generalize m.get d=u at hr;cases ht:tmps[d]? with
   |none=>
    rw[ht] at hr;simp only[Option.getD_none,undef] at hr;cases hr;rfl
   |some t=>
    rw[ht] at hr;simp only[Option.getD_some] at hr;cases hr<;>rfl
theorem Gn{ops:List Oper}{m:Tm}{tmps:Array Value}(hm:ij Γ m tmps)(o:Oper):Region.wanted o (yielded ⟨ops⟩ tmps)=b_ ops m o:=by
 unfold Region.wanted b_;cases o.guard with
 |none=>rfl
 |some g=>
  obtain⟨j,want⟩:=g;dsimp only;rw[DC hm j];cases ig ops m j with
  |none=>rfl
  |some b=>cases b<;>cases want<;>rfl
theorem DE(hO:cU P O)(fY:iY P ev)(hlo:jz ev){lim:Nat}{ops:List Oper}{i:Nat}{o:Oper}(ho:ops[i]? = some o){m m':Tm}{a:Act}{s s':HS}{H:PT aj}(e:lW P O ev lim ops o m s = .ok m' s')(hl:lim≤s.next)(hw:Wf s)
  (hS:bK Γ W H w) (hx:Ext s.heap H) (hm:xj Γ m a) (hf:Free Γ s.next s'.next) (r:Option Nat) {K:Act→World→Prop} {Q:Exit→Act→World→Prop}
  (hk:∀ aY w' a' H',Ex Γ aY lim s s' W H H' w'→xj aY m' a'→K a' w'):wpOpIn (Fw r) 0 P ⟨ops⟩ Q i K a w:=by
 unfold lW at e;obtain⟨v,s₁,e₁,e₂⟩:=bE e;have hput:m.put o.dst v=some m'∧s₁=s':=by
  unfold jt at e₂;cases hp:m.put o.dst v with
  |none=>simp[hp] at e₂
  |some m₂=>
   simp only[hp,aO.ok.injEq] at e₂;exact⟨by rw[e₂.1],e₂.2⟩
 obtain⟨hp,rfl⟩:=hput;have ho':(⟨ops⟩:Array Oper)[i]? = some o:=by simpa using ho
 unfold wpOpIn;simp only[ho'];rw[Gn hm.tm o];cases hwt:b_ ops m o with
 |true=>
  simp only[hwt,cond_true] at e₁;simp only[if_true];exact J4 hO fY hlo e₁ hl hw hS hx (fun x _ hx=>xm hm.tm x hx) hf r fun aY w' v' H' hex hv=>hk aY w' _ H' hex ((hm.mono hex.le).put hv hp)
 |false=>
  simp only[hwt,cond_false,aO.ok.injEq] at e₁;obtain⟨rfl,rfl⟩:=e₁;simp only[Bool.false_eq_true,if_false];exact⟨fun _ _=>trivial,hk Γ w _ H (Ex.refl hS hx) (hm.put (.tuple _ _ .nil) hp)⟩
theorem zX(hO:cU P O)(fY:iY P ev)(hlo:jz ev){lim:Nat}{ops:List Oper}{r:Option Nat}{Q:Exit→Act→World→Prop}:∀ (rest:List Oper) (k:Nat) (Γ:bL) (w:World) (m m':Tm) (a:Act) (s s':HS) (H:PT aj),ops.drop k=rest→
  jl P O ev lim ops rest m s = .ok m' s'→lim≤s.next→Wf s→bK Γ W H w→Ext s.heap H→xj Γ m a→Free Γ s.next s'.next→
  (∀ aY w' a' H',Ex Γ aY lim s s' W H H' w'→xj aY m' a'→Q .normal a' w')→wpOpsIn (Fw r) 0 P ⟨ops⟩ Q (List.range' k rest.length) a w
 | [],k,Γ,w,m,m',a,s,s',H,hd,e,hl,hw,hS,hx,hm,hf,hk=>by
  simp only[jl,aO.ok.injEq] at e;obtain⟨rfl,rfl⟩:=e;exact hk Γ w a H (Ex.refl hS hx) hm
 |o::rest,k,Γ,w,m,m',a,s,s',H,hd,e,hl,hw,hS,hx,hm,hf,hk=>by
  simp only[jl] at e;obtain⟨m₁,s₁,e₁,e₂⟩:=bE e;obtain⟨hn₁,gY⟩:=g_ (tT (P:=P) (lim:=lim) hlo ops o m) e₁ hl hw;have hn₂:=(g_ (Bp (P:=P) (lim:=lim) hlo ops rest m₁) e₂ (Nat.le_trans hl hn₁) gY).1;have ho:ops[k]? = some o:=by
   have:=congrArg (·[0]?) hd
   simpa using this
  have hd':ops.drop (k+1)=rest:=by
   have:=congrArg (List.drop 1) hd
   simpa [Nat.add_comm] using this
  rw[List.length_cons,List.range'_succ,wpOpsIn_cons];refine DE hO fY hlo ho e₁ hl hw hS hx hm (hf.sub hn₂) r fun cW w₁ a₁ H₁ dm hm₁=>?_;exact zX hO fY hlo rest (k+1) cW w₁ m₁ m' a₁ s₁ s' H₁ hd' e₂ qJ gY dm.rel dm.sub hm₁ (hf.after dm) fun eP w₂ a₂ H₂ fc hm₂=>hk eP w₂ a₂ H₂ (dm.trans fc) hm₂
end
end Go.Am
