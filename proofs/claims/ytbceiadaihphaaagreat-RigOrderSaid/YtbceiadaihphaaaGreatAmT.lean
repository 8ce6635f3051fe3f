/-
  The abstract machine: calls, rounds, operations, regions in the order of their text.
-/
import Derived.Test.YtbceiadaihphaaaGreatAmS
set_option linter.unusedSimpArgs false
set_option linter.unusedVariables false
namespace Go.Am
open Go.RowKit
section
variable {P:Program} {O:dK} {ev:ke} {Γ:bu} {W w:World}
theorem bz {α β:Type} {r:bw α} {k:α→HS→bw β} {b:β} {s':HS} (h:bT r k = .ok b s'):∃ a s,r = .ok a s∧k a s = .ok b s':=by
 unfold bT at h
 split at h
 ·exact⟨_,_,rfl,h⟩
 ·simp at h
theorem GN {args args':List Value} (ha:aH Γ args args') (k:Nat):fE Γ ⟨args.length+(k-args.length),PT.ofList .leaf 0 args,[]⟩ ((⟨args'⟩:Array Value)++Array.replicate (k-(⟨args'⟩:Array Value).size) undef):=by
 have hlen:=ha.length
 refine⟨by simp[hlen],fun i=>?_⟩
 show aF Γ (match (PT.ofList .leaf 0 args).get i with |some v=>v |none => .tuple ⟨[]⟩) _
 rw[PT.bf,Array.getD_eq_getD_getElem?]
 by_cases hi:i<args.length
 ·obtain⟨v,hv⟩:∃ v,args[i]? = some v:=⟨args[i],by simp[hi]⟩
  obtain⟨v',PD,hr⟩:=ha.get hv
  rw[hv,Array.getElem?_append_left (by simp[hlen];exact hi)]
  have:(⟨args'⟩:Array Value)[i]? = some v':=by simpa using PD
  rw[this]
  exact hr
 ·rw[List.getElem?_eq_none (by omega)]
  rw[Array.getElem?_append_right (by simp[hlen];omega)]
  have:(Array.replicate (k-(⟨args'⟩:Array Value).size) undef)[i-(⟨args'⟩:Array Value).size]?.getD undef=undef:=by
   rw[Array.getElem?_replicate];split<;>rfl
  rw[this]
  exact .tuple _ _ .nil
theorem nK (cR:gk P ev) (hlo:gJ ev) {lim:Nat} {f:FuncId} {args args':List Value} {s s':HS} {v:Value} {H:PT aj} (e:fZ P ev lim f args s = .ok v s') (hl:lim≤s.next) (hw:Wf s)
  (hS:bq Γ W H w) (hx:Ext s.heap H) (ha:aH Γ args args') (hf:Free Γ s.next s'.next) (r:Option Nat):
  CallsIn (Fw r) 0 P f ⟨args'⟩ w fun e w'=>∃ aS v' H',e = .returned v'∧Ex Γ aS lim s s' W H H' w'∧aF aS v v':=by
 unfold fZ at e
 cases hfn:P.funcs[f]? with
 |none=>simp[hfn] at e
 |some fn=>
  simp only[hfn] at e
  cases hb:fn.body with
  |none=>simp[hb] at e
  |some c=>
   simp only[hb] at e
   obtain⟨x,s₁,e₁,e₂⟩:=bz e
   obtain⟨hn₁,fm⟩:=fB (hlo _ _ _ _) e₁ hl hw
   have hn₂:=(fB (pG (P:=P) (lim:=lim) _ _) e₂ (Nat.le_trans hl hn₁) fm).1
   have key:CallsIn Fence.wide 0 P f ⟨args'⟩ w fun e w'=>∃ aS v' H',e = .returned v'∧Ex Γ aS lim s s' W H H' w'∧aF aS v v':=by
    refine callsIn_of_wp_marks hfn hb trivial ?_
    refine cR none lim c _ s x s₁ e₁ hl hw Γ W w { tmps:=(⟨args'⟩:Array Value)++Array.replicate (fn.ntmps-(⟨args'⟩:Array Value).size) undef,defers:=[] } none H hS hx ⟨GN ha _,.nil⟩ .no (hf.sub hn₂) _ ?_
    intro aS w' a' H₁ hex hfr
    obtain⟨H₂,e₂,PE,PF,_,_,KK⟩:=rN (pG (P:=P) (lim:=lim) _ _) e₂ (Nat.le_trans hl hn₁) fm hex.sub
    unfold iR at e₂
    have fin:bT (eI lim x.2.gD ⟨H₁,s₁.next,s₁.rd,s₁.wr⟩) (fun _ s=>bT (cP P lim x.2 fn.results.toList s) fun l s => .ok (oneOf l) s) = .ok v ⟨H₂,s'.next,s'.rd,s'.wr⟩→
      LeavesInM Fence.wide 0 P fn a'.tmps (fun e w'=>∃ aS v' H',e = .returned v'∧Ex Γ aS lim s s' W H H' w'∧aF aS v v') a'.defers .returning w':=by
     intro e₃
     obtain⟨_,s₂,e₄,e₅⟩:=bz e₃
     obtain⟨l,s₃,e₆,PG⟩:=bz e₅
     simp only[bw.ok.injEq] at PG
     obtain⟨rfl,rfl⟩:=PG
     obtain⟨g1,g2⟩:=tJ (P:=P) (fn:=fn) (R:=fun e w'=>∃ aS v' H',e = .returned v'∧Ex Γ aS lim s s' W H H' w'∧aF aS (oneOf l) v') x.2.gD a'.defers ⟨H₁,s₁.next,s₁.rd,s₁.wr⟩ s₂ _ l w' hfr.tm hfr.df hex.rel e₄ e₆
     have g1:s'.next=s₁.next:=g1
     refine g2 fun w₂ v' vW hv=>⟨aS,v',H₂,rfl,hex.trans ⟨.refl _,vW,fun i hi=>rfl,PE,PF,by omega,KK⟩,hv⟩
    cases hx:x.1 with
    |exit id=>simp[hx] at e₂
    |normal=>simp only[hx] at e₂;exact fin e₂
    |ret=>simp only[hx] at e₂;exact fin e₂
   exact key
def eU (P:Program) (O:dK):Prop:=
 ∀ f args m,O f args=some m→∀ (Γ:bu) (W w:World) (h:PT aj) (n lim:Nat) (rd wr:List Nat) (args':List Value) (v:Value) (s':HS),aH Γ args args'→bq Γ W h w→m.run lim ⟨h,n,rd,wr⟩ = .ok v s'→Free Γ n s'.next→
  CallsIn Fence.wide 0 P f ⟨args'⟩ w fun e w'=>∃ aS v',e = .returned v'∧Γ.le aS∧bq aS W s'.heap w'∧(∀ i,¬(n≤i∧i<s'.next)→aS.bW i=Γ.bW i)∧aF aS v v'
theorem nN (hO:eU P O) (cR:gk P ev) (hlo:gJ ev) {lim:Nat} {f:FuncId} {args args':List Value} {s s':HS} {v:Value} {H:PT aj} (e:fD P O ev lim f args s = .ok v s') (hl:lim≤s.next) (hw:Wf s)
  (hS:bq Γ W H w) (hx:Ext s.heap H) (ha:aH Γ args args') (hf:Free Γ s.next s'.next) (r:Option Nat):
  CallsIn (Fw r) 0 P f ⟨args'⟩ w fun e w'=>∃ aS v' H',e = .returned v'∧Ex Γ aS lim s s' W H H' w'∧aF aS v v':=by
 unfold fD at e
 cases WV:O f args with
 |none=>simp only[WV] at e;exact nK cR hlo e hl hw hS hx ha hf r
 |some m=>
  simp only[WV] at e
  obtain⟨H',e',h6,h7,h8,_,h9⟩:=rN (dL m) e hl hw hx
  have:=hO f args m WV Γ W w H s.next lim s.rd s.wr args' v _ ha hS e' hf
  have key:CallsIn Fence.wide 0 P f ⟨args'⟩ w fun e w'=>∃ aS v' H',e = .returned v'∧Ex Γ aS lim s s' W H H' w'∧aF aS v v':=by
   refine CallsIn.mono this ?_
   rintro en w' ⟨aS,v',rfl,h2,h3,h4,h5⟩
   exact⟨aS,v',H',rfl,⟨h2,h3,h4,h6,h7,h8,h9⟩,h5⟩
  exact key
theorem ku {h:PT aj} (hS:bq Γ W h w) {l l':Nat} (hl:Γ.bW l=some (l',0)) {st:LoopState} {ig:Option Code} {tm:Tm} {ps:List Tmp} {as bd:Code} (hb:h.get l=some (.loop st ig tm ps as bd)):
  ∃ L:Loop,w.heap[l']? = some (.loop L)∧L.state=st∧L.pending=ig∧fE Γ tm L.tmps∧L.params.toList=ps∧L.assign=as∧L.body=bd:=by
 obtain⟨b,s,e,⟨rfl,L,hL⟩,_⟩:=hS.live _ _ hb
 rw[hl] at e
 obtain⟨rfl,_⟩:l'=b∧0=0:=by simpa using e
 exact⟨L,hL⟩
theorem rP {h:PT aj} (hS:bq Γ W h w) {l l':Nat} (hl:Γ.bW l=some (l',0)) {st st':LoopState} {ig vX:Option Code} {tm:Tm} {ps:List Tmp} {as bd:Code} (hb:h.get l=some (.loop st ig tm ps as bd))
  {L:Loop} (hL:w.heap[l']? = some (.loop L)) (h4:fE Γ tm L.tmps) (h5:L.params.toList=ps) (h6:L.assign=as) (h7:L.body=bd):
  bq Γ W (h.set l (some (.loop st' vX tm ps as bd))) { w with heap:=w.heap.setIfInBounds l' (.loop { L with state:=st',pending:=vX }) }:=
 hS.rj hb hl trivial trivial (fun w' ⟨_,L,q,_⟩=>⟨_,q,rfl⟩) rfl (fun w' q=>⟨rfl,_,q,rfl,rfl,h4,h5,h6,h7⟩)
theorem A7 {l l':Nat} (hl:Γ.bW l=some (l',0)):fK P Γ (mI l) (Instr.beginRound l') (fun _ _ _=>True):=by
 intro W h n w hS
 unfold mI
 refine ak.get fun B hB=>?_
 split
 ·rename_i ig tm ps as bd
  obtain⟨L,h1,h2,h3,h4,h5,h6,h7⟩:=ku hS hl hB
  have kR:=rP (st' := .busy) (vX:=ig) hS hl hB h1 h4 h5 h6 h7
  refine ak.set (e':=pure ()) ?_ (ak.ok kR rfl trivial)
  have sR:(Instr.getLoop l').run P w = .ok L w:=by simp[Instr.getLoop,getObj,Sem.run,h1]
  have AL:∀ o,(setObj l' o).run P w = .ok () { w with heap:=w.heap.setIfInBounds l' o }:=fun o=>by simp[setObj,Sem.run,h1]
  have WW:({ L with state:=LoopState.busy,pending:=ig }:Loop)={ L with state := .busy }:=by rw[←h3]
  rw[WW]
  simp[Instr.beginRound,sR,AL,h2]
 ·exact ak.fail
theorem GQ {l l':Nat} (hl:Γ.bW l=some (l',0)) (jump:Option Code):fK P Γ (qH l jump) (Instr.endRound l' jump) aF:=by
 intro W h n w hS
 unfold qH
 refine ak.get fun B hB=>?_
 split
 ·rename_i st ig tm ps as bd
  obtain⟨L,h1,h2,h3,h4,h5,h6,h7⟩:=ku hS hl hB
  have kR:=rP (st':=cond jump.isNone .ready .done) (vX:=jump) hS hl hB h1 h4 h5 h6 h7
  refine ak.set (e':=pure (.bool jump.isNone)) ?_ (ak.ok kR rfl (.bool _))
  have sR:(Instr.getLoop l').run P w = .ok L w:=by simp[Instr.getLoop,getObj,Sem.run,h1]
  have AL:∀ o,(setObj l' o).run P w = .ok () { w with heap:=w.heap.setIfInBounds l' o }:=fun o=>by simp[setObj,Sem.run,h1]
  simp only[Instr.endRound,Sem.run_bind,sR,Result.andThen_ok,AL,Sem.run_pure]
  cases jump<;>rfl
 ·exact ak.fail
theorem Ds {l l':Nat} (hl:Γ.bW l=some (l',0)):fK P Γ (oq l) (Instr.endLoop l') (fun _ x j=>j=exitCode x):=by
 intro W h n w hS
 unfold oq
 refine ak.get fun B hB=>?_
 cases B with
 |loop st ig tm ps as bd=>
  obtain⟨L,h1,h2,h3,h4,h5,h6,h7⟩:=ku hS hl hB
  have sR:(Instr.getLoop l').run P w = .ok L w:=by simp[Instr.getLoop,getObj,Sem.run,h1]
  have AL:∀ o,(setObj l' o).run P w = .ok () { w with heap:=w.heap.setIfInBounds l' o }:=fun o=>by simp[setObj,Sem.run,h1]
  have WW:({ L with state:=LoopState.exhausted,pending:=ig }:Loop)={ L with state := .exhausted }:=by rw[←h3]
  have kR:=rP (st' := .exhausted) (vX:=ig) hS hl hB h1 h4 h5 h6 h7
  rw[WW] at kR
  have hrun:st ≠ .busy→(Instr.endLoop l').run P w = .ok ig { w with heap:=w.heap.setIfInBounds l' (.loop { L with state := .exhausted }) }:=by
   intro hst
   have:(L.state==LoopState.busy)=false:=by rw[h2];cases st<;>first |rfl |exact absurd rfl hst
   simp only[Instr.endLoop,Sem.run_bind,sR,Result.andThen_ok,this,Bool.false_eq_true,if_false,AL,Sem.run_pure,h3]
  have fin:st ≠ .busy→ak P Γ W h n w (match ig with
    |none => .set l (.loop .exhausted none tm ps as bd) (.pure .normal)
    |some .ret => .set l (.loop .exhausted (some .ret) tm ps as bd) (.pure .ret)
    |some (.exit id) => .set l (.loop .exhausted (some (.exit id)) tm ps as bd) (.pure (.exit id))
    |some _ => .fail "range jump") (Instr.endLoop l') (fun _ x j=>j=exitCode x):=by
   intro hst
   have hrun:=hrun hst
   split
   ·exact ak.set (e':=pure none) hrun (ak.ok kR rfl rfl)
   ·exact ak.set (e':=pure (some .ret)) hrun (ak.ok kR rfl rfl)
   ·exact ak.set (e':=pure (some (.exit _))) hrun (ak.ok kR rfl rfl)
   ·exact ak.fail
  cases st with
  |busy=>exact ak.fail
  |ready=>exact fin (by simp)
  |done=>exact fin (by simp)
  |exhausted=>exact fin (by simp)
 | _=>exact ak.fail
theorem vY (cR:gk P ev) (hlo:gJ ev) {lim:Nat} {l l':Nat} {m:Tm} {fn:FuncId} {tmps:Array Value} {as bd:Code} {s s':HS} {v:Value} {H:PT aj} (e:fP ev lim l m as bd s = .ok v s') (hl:lim≤s.next) (hw:Wf s)
  (hS:bq Γ W H w) (hx:Ext s.heap H) (hb:Γ.bW l=some (l',0)) (ht:fE Γ m tmps) (hd:m.gD=[]) (hf:Free Γ s.next s'.next) (r:Option Nat):
  RoundIn (Fw r) 0 P l' fn tmps as bd w fun e w'=>∃ aS v' H',e = .returned v'∧Ex Γ aS lim s s' W H H' w'∧aF aS v v':=by
 unfold fP at e
 obtain⟨x,s₁,e₁,e₂⟩:=bz e
 obtain⟨hn₁,fm⟩:=fB (hlo _ _ _ _) e₁ hl hw
 cases hx1:x.1 with
 |exit id=>simp[hx1] at e₂
 |ret=>simp[hx1] at e₂
 |normal=>
  simp only[hx1] at e₂
  obtain⟨_,s₂,e₃,e₄⟩:=bz e₂
  obtain⟨hn₂,vZ⟩:=fB (dL _) e₃ (Nat.le_trans hl hn₁) fm
  obtain⟨y,s₃,e₅,e₆⟩:=bz e₄
  obtain⟨PI,v5⟩:=fB (hlo _ _ _ _) e₅ (by omega) vZ
  have PJ:=(fB (dL _) e₆ (by omega) v5).1
  refine roundIn_of_wpIn trivial ?_
  refine cR (some l) lim as m s x s₁ e₁ hl hw Γ W w { tmps,defers:=[] } (some l') H hS hx ⟨ht,by rw[hd];exact .nil⟩ (.yes _ _ hb) (hf.sub (by omega)) _ ?_
  intro cC w₁ a₁ H₁ cJ KL
  rw[hx1]
  show ∃ w₂,_∧_
  have hb₁:=cJ.le.bW _ _ hb
  obtain⟨dD,w₂,_,H₂,kA,dN,_⟩:=mM (A7 (P:=P) hb₁) e₃ (by omega) fm cJ.rel cJ.sub (hf.after cJ |>.sub (by omega))
  refine⟨w₂,kA,?_⟩
  have jN:=cJ.trans dN
  refine cR (some l) lim bd x.2 s₂ y s₃ e₅ (by omega) vZ dD W w₂ a₁ (some l') H₂ dN.rel dN.sub (KL.mono dN.le) (.yes _ _ (dN.le.bW _ _ hb₁)) (hf.after jN |>.sub (by omega)) _ ?_
  intro PK w₃ a₃ WX kB WY
  have iE:=jN.trans kB
  have Dt:=iE.le.bW _ _ hb
  obtain⟨v7,GR,v',KM,uB,uC,hv⟩:=mM (GQ (P:=P) Dt (exitCode y.1)) e₆ (by omega) v5 kB.rel kB.sub (hf.after iE)
  have fin:∃ v w',(Instr.endRound l' (exitCode y.1)).run P w₃ = .ok v w'∧(fun e w'=>∃ aS v' H',e=Ending.returned v'∧Ex Γ aS lim s s' W H H' w'∧aF aS _ v') (.returned v) w':=
   ⟨v',GR,uB,v7,v',KM,rfl,iE.trans uC,hv⟩
  cases hy:y.1 with
  |normal=>rw[hy] at fin;exact fin
  |ret=>rw[hy] at fin;exact fin
  |exit id=>rw[hy] at fin;exact fin
theorem Du {o:Oper} (h:∀ c,o.op ≠ .defer c) (r:Option Nat) (ρ:Operand→Value):o.semAt r ρ=execOp ρ o:=Oper.semAt_eq r ρ o h
theorem A8 {ρ:Operand→Value} {o:Oper} {c:Call} (h:o.op = .defer c):jA P ρ o = .fail "operation":=by
 unfold jA;rw[h]
theorem A_ (hO:eU P O) (cR:gk P ev) (hlo:gJ ev) {lim:Nat} {ρ:Operand→Value} {o:Oper} {a:Act} {s s':HS} {v:Value} {H:PT aj} (e:jH P O ev lim ρ o s = .ok v s') (hl:lim≤s.next) (hw:Wf s)
  (hS:bq Γ W H w) (hx:Ext s.heap H) (hρ:∀ x,x∈o.op.operands→bt x=true→aF Γ (ρ x) (a.eval x)) (hf:Free Γ s.next s'.next) (r:Option Nat) {next:Act→World→Prop} {Q:Exit→Act→World→Prop}
  (hk:∀ aS w' v' H',Ex Γ aS lim s s' W H H' w'→aF aS v v'→next (a.put o.dst v') w'):o.wpIn (Fw r) 0 P a w next Q:=by
 unfold jH at e
 cases hfl:o.op.operands.toList.all bt with
 |false=>simp[hfl] at e
 |true=>
  simp only[hfl,cond_true] at e
  obtain⟨x,s₁,e₁,e₂⟩:=bz e
  obtain⟨hn₁,fm⟩:=fB (dL _) e₁ hl hw
  have hn₂:=(fB (vS (P:=P) (lim:=lim) hlo x) e₂ (Nat.le_trans hl hn₁) fm).1
  have WZ:∀ x∈o.op.operands,aF Γ (ρ x) (a.eval x):=fun x hx=>hρ x hx (List.all_eq_true.1 hfl x (by simpa using hx))
  obtain⟨cC,w₁,nx,H₁,hrun,cJ,Dv⟩:=mM (GI (P:=P) WZ) e₁ hl hw hS hx (hf.sub hn₂)
  have hnd:∀ c,o.op ≠ .defer c:=fun c hc=>by rw[A8 hc] at e₁;simp[AP.run] at e₁
  refine⟨fun _ _=>trivial,?_⟩
  rw[Du hnd,hrun]
  have Jw:=hf.after cJ
  cases Dv with
  |value _ v' hv=>
   simp only[f_,bw.ok.injEq] at e₂
   obtain⟨rfl,rfl⟩:=e₂
   exact hk cC w₁ v' H₁ cJ hv
  |skip=>
   simp only[f_,bw.ok.injEq] at e₂
   obtain⟨rfl,rfl⟩:=e₂
   exact hk cC w₁ undef H₁ cJ (.tuple _ _ .nil)
  |enter f args args' ha=>
   refine⟨fun h=>by simp[Fw] at h,?_⟩
   refine CallsIn.mono (nN hO cR hlo e₂ (by omega) fm cJ.rel cJ.sub ha Jw r) ?_
   rintro en w₂ ⟨dD,v',H₂,rfl,dN,hv⟩
   exact hk dD w₂ v' H₂ (cJ.trans dN) hv
  |round l l' m fn tmps as bd hb ht hd=>
   refine⟨fun h=>by simp[Fw] at h,?_⟩
   refine RoundIn.mono (vY cR hlo e₂ (by omega) fm cJ.rel cJ.sub hb ht hd Jw r) ?_
   rintro en w₂ ⟨dD,v',H₂,rfl,dN,hv⟩
   exact hk dD w₂ v' H₂ (cJ.trans dN) hv
theorem v8 {ops:List Oper} {m:Tm} {tmps:Array Value} (hm:fE Γ m tmps) (j:Nat):yielded ⟨ops⟩ tmps j=gV ops m j:=by
 unfold yielded gV
 have:(⟨ops⟩:Array Oper)[j]? = ops[j]? := by simp
 rw[this]
 cases ops[j]? with
 |none=>rfl
 |some o=>
  cases hd:o.dst with
  |none=>simp[hd]
  |some d=>
   simp only[Option.bind_some,hd]
   have hr:aF Γ (m.get d) (tmps.getD d undef):=hm.get d
   rw[Array.getD_eq_getD_getElem?] at hr
   generalize m.get d=u at hr
   cases ht:tmps[d]? with
   |none=>
    rw[ht] at hr
    simp only[Option.getD_none,undef] at hr
    cases hr
    rfl
   |some t=>
    rw[ht] at hr
    simp only[Option.getD_some] at hr
    cases hr<;>rfl
theorem yA {ops:List Oper} {m:Tm} {tmps:Array Value} (hm:fE Γ m tmps) (o:Oper):Region.wanted o (yielded ⟨ops⟩ tmps)=cI ops m o:=by
 unfold Region.wanted cI
 cases o.guard with
 |none=>rfl
 |some g=>
  obtain⟨j,want⟩:=g
  dsimp only
  rw[v8 hm j]
  cases gV ops m j with
  |none=>rfl
  |some b=>cases b<;>cases want<;>rfl
theorem v9 (hO:eU P O) (cR:gk P ev) (hlo:gJ ev) {lim:Nat} {ops:List Oper} {i:Nat} {o:Oper} (ho:ops[i]? = some o) {m m':Tm} {a:Act} {s s':HS} {H:PT aj} (e:n6 P O ev lim ops o m s = .ok m' s') (hl:lim≤s.next) (hw:Wf s)
  (hS:bq Γ W H w) (hx:Ext s.heap H) (hm:rK Γ m a) (hf:Free Γ s.next s'.next) (r:Option Nat) {K:Act→World→Prop} {Q:Exit→Act→World→Prop}
  (hk:∀ aS w' a' H',Ex Γ aS lim s s' W H H' w'→rK aS m' a'→K a' w'):wpOpIn (Fw r) 0 P ⟨ops⟩ Q i K a w:=by
 unfold n6 at e
 obtain⟨v,s₁,e₁,e₂⟩:=bz e
 have hput:m.put o.dst v=some m'∧s₁=s':=by
  unfold jI at e₂
  cases hp:m.put o.dst v with
  |none=>simp[hp] at e₂
  |some m₂=>
   simp only[hp,bw.ok.injEq] at e₂
   exact⟨by rw[e₂.1],e₂.2⟩
 obtain⟨hp,rfl⟩:=hput
 have ho':(⟨ops⟩:Array Oper)[i]? = some o:=by simpa using ho
 unfold wpOpIn
 simp only[ho']
 rw[yA hm.tm o]
 cases Z1:cI ops m o with
 |true=>
  simp only[Z1,cond_true] at e₁
  simp only[if_true]
  exact A_ hO cR hlo e₁ hl hw hS hx (fun x _ hx=>rO hm.tm x hx) hf r fun aS w' v' H' hex hv=>hk aS w' _ H' hex ((hm.mono hex.le).put hv hp)
 |false=>
  simp only[Z1,cond_false,bw.ok.injEq] at e₁
  obtain⟨rfl,rfl⟩:=e₁
  simp only[Bool.false_eq_true,if_false]
  exact⟨fun _ _=>trivial,hk Γ w _ H (Ex.refl hS hx) (hm.put (.tuple _ _ .nil) hp)⟩
theorem tK (hO:eU P O) (cR:gk P ev) (hlo:gJ ev) {lim:Nat} {ops:List Oper} {r:Option Nat} {Q:Exit→Act→World→Prop}:∀ (rest:List Oper) (k:Nat) (Γ:bu) (w:World) (m m':Tm) (a:Act) (s s':HS) (H:PT aj),ops.drop k=rest→
  bX P O ev lim ops rest m s = .ok m' s'→lim≤s.next→Wf s→bq Γ W H w→Ext s.heap H→rK Γ m a→Free Γ s.next s'.next→
  (∀ aS w' a' H',Ex Γ aS lim s s' W H H' w'→rK aS m' a'→Q .normal a' w')→wpOpsIn (Fw r) 0 P ⟨ops⟩ Q (List.range' k rest.length) a w
 | [],k,Γ,w,m,m',a,s,s',H,hd,e,hl,hw,hS,hx,hm,hf,hk=>by
  simp only[bX,bw.ok.injEq] at e
  obtain⟨rfl,rfl⟩:=e
  exact hk Γ w a H (Ex.refl hS hx) hm
 |o::rest,k,Γ,w,m,m',a,s,s',H,hd,e,hl,hw,hS,hx,hm,hf,hk=>by
  simp only[bX] at e
  obtain⟨m₁,s₁,e₁,e₂⟩:=bz e
  obtain⟨hn₁,fm⟩:=fB (pH (P:=P) (lim:=lim) hlo ops o m) e₁ hl hw
  have hn₂:=(fB (uz (P:=P) (lim:=lim) hlo ops rest m₁) e₂ (Nat.le_trans hl hn₁) fm).1
  have ho:ops[k]? = some o:=by
   have:=congrArg (·[0]?) hd
   simpa using this
  have hd':ops.drop (k+1)=rest:=by
   have:=congrArg (List.drop 1) hd
   simpa [Nat.add_comm] using this
  rw[List.length_cons,List.range'_succ,wpOpsIn_cons]
  refine v9 hO cR hlo ho e₁ hl hw hS hx hm (hf.sub hn₂) r fun cC w₁ a₁ H₁ cJ hm₁=>?_
  exact tK hO cR hlo rest (k+1) cC w₁ m₁ m' a₁ s₁ s' H₁ hd' e₂ (by omega) fm cJ.rel cJ.sub hm₁ (hf.after cJ) fun dD w₂ a₂ H₂ dN hm₂=>hk dD w₂ a₂ H₂ (cJ.trans dN) hm₂
end
end Go.Am
