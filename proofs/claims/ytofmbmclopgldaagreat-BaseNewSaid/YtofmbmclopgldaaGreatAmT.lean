/-
  The abstract machine: calls, rounds, operations, regions in the order of their text.
-/
import Derived.Test.YtofmbmclopgldaaGreatAmS
set_option linter.unusedSimpArgs false
set_option linter.unusedVariables false
namespace Go.Am
open Go.RowKit
section
variable {P:Program} {O:Over} {ev:fU} {Γ:br} {W w:World}
theorem bq {α β:Type} {r:aH α} {k:α→HS→aH β} {b:β} {s':HS} (h:bH r k = .ok b s'):∃ a s,r = .ok a s∧k a s = .ok b s':=by
 unfold bH at h
 split at h
 ·exact⟨_,_,rfl,h⟩
 ·simp at h
theorem Jh {args args':List Value} (ha:aF Γ args args') (k:Nat):fm Γ ⟨args.length+(k-args.length),PT.ofList .leaf 0 args,[]⟩ ((⟨args'⟩:Array Value)++Array.replicate (k-(⟨args'⟩:Array Value).size) undef):=by
 have hlen:=ha.length
 refine⟨by simp[hlen],fun i=>?_⟩
 show aA Γ (match (PT.ofList .leaf 0 args).get i with |some v=>v |none => .tuple ⟨[]⟩) _
 rw[PT.aI,Array.getD_eq_getD_getElem?]
 by_cases hi:i<args.length
 ·obtain⟨v,hv⟩:∃ v,args[i]? = some v:=⟨args[i],by simp[hi]⟩
  obtain⟨v',Sm,hr⟩:=ha.get hv
  rw[hv,Array.getElem?_append_left (by simp[hlen];exact hi)]
  have:(⟨args'⟩:Array Value)[i]? = some v':=by simpa using Sm
  rw[this]
  exact hr
 ·rw[List.getElem?_eq_none (by omega)]
  rw[Array.getElem?_append_right (by simp[hlen];omega)]
  have:(Array.replicate (k-(⟨args'⟩:Array Value).size) undef)[i-(⟨args'⟩:Array Value).size]?.getD undef=undef:=by
   rw[Array.getElem?_replicate];split<;>rfl
  rw[this]
  exact .tuple _ _ .nil
theorem nQ (d_:gq P ev) (hlo:gP ev) {lim:Nat} {f:FuncId} {args args':List Value} {s s':HS} {v:Value} {H:PT ak} (e:fk P ev lim f args s = .ok v s') (hl:lim≤s.next) (hw:Wf s)
  (hS:bh Γ W H w) (hx:Ext s.heap H) (ha:aF Γ args args') (hf:Free Γ s.next s'.next) (r:Option Nat):
  CallsIn (Fw r) 0 P f ⟨args'⟩ w fun e w'=>∃ aS v' H',e = .returned v'∧Ex Γ aS lim s s' W H H' w'∧aA aS v v':=by
 unfold fk at e
 cases hfn:P.funcs[f]? with
 |none=>simp[hfn] at e
 |some fn=>
  simp only[hfn] at e
  cases hb:fn.body with
  |none=>simp[hb] at e
  |some c=>
   simp only[hb] at e
   obtain⟨x,s₁,e₁,e₂⟩:=bq e
   obtain⟨hn₁,eU⟩:=eY (hlo _ _ _ _) e₁ hl hw
   have hn₂:=(eY (pF (P:=P) (lim:=lim) _ _) e₂ (Nat.le_trans hl hn₁) eU).1
   have key:CallsIn Fence.wide 0 P f ⟨args'⟩ w fun e w'=>∃ aS v' H',e = .returned v'∧Ex Γ aS lim s s' W H H' w'∧aA aS v v':=by
    refine callsIn_of_wp_marks hfn hb trivial ?_
    refine d_ none lim c _ s x s₁ e₁ hl hw Γ W w { tmps:=(⟨args'⟩:Array Value)++Array.replicate (fn.ntmps-(⟨args'⟩:Array Value).size) undef,defers:=[] } none H hS hx ⟨Jh ha _,.nil⟩ .no (hf.sub hn₂) _ ?_
    intro aS w' a' H₁ hex hfr
    obtain⟨H₂,e₂,Sn,Sr,_,_,Nh⟩:=sB (pF (P:=P) (lim:=lim) _ _) e₂ (Nat.le_trans hl hn₁) eU hex.sub
    unfold gI at e₂
    have fin:bH (dO lim x.2.eS ⟨H₁,s₁.next,s₁.rd,s₁.wr⟩) (fun _ s=>bH (b8 P lim x.2 fn.results.toList s) fun l s => .ok (oneOf l) s) = .ok v ⟨H₂,s'.next,s'.rd,s'.wr⟩→
      LeavesInM Fence.wide 0 P fn a'.tmps (fun e w'=>∃ aS v' H',e = .returned v'∧Ex Γ aS lim s s' W H H' w'∧aA aS v v') a'.defers .returning w':=by
     intro e₃
     obtain⟨_,s₂,e₄,e₅⟩:=bq e₃
     obtain⟨l,s₃,e₆,Ss⟩:=bq e₅
     simp only[aH.ok.injEq] at Ss
     obtain⟨rfl,rfl⟩:=Ss
     obtain⟨g1,g2⟩:=uH (P:=P) (fn:=fn) (R:=fun e w'=>∃ aS v' H',e = .returned v'∧Ex Γ aS lim s s' W H H' w'∧aA aS (oneOf l) v') x.2.eS a'.defers ⟨H₁,s₁.next,s₁.rd,s₁.wr⟩ s₂ _ l w' hfr.tm hfr.df hex.rel e₄ e₆
     have g1:s'.next=s₁.next:=g1
     refine g2 fun w₂ v' xU hv=>⟨aS,v',H₂,rfl,hex.trans ⟨.refl _,xU,fun i hi=>rfl,Sn,Sr,by omega,Nh⟩,hv⟩
    cases hx:x.1 with
    |exit id=>simp[hx] at e₂
    |normal=>simp only[hx] at e₂;exact fin e₂
    |ret=>simp only[hx] at e₂;exact fin e₂
   exact key
def cr (P:Program) (O:Over):Prop:=
 ∀ f args m,O f args=some m→∀ (Γ:br) (W w:World) (h:PT ak) (n lim:Nat) (rd wr:List Nat) (args':List Value) (v:Value) (s':HS),aF Γ args args'→bh Γ W h w→m.run lim ⟨h,n,rd,wr⟩ = .ok v s'→Free Γ n s'.next→
  CallsIn Fence.wide 0 P f ⟨args'⟩ w fun e w'=>∃ aS v',e = .returned v'∧Γ.le aS∧bh aS W s'.heap w'∧(∀ i,¬(n≤i∧i<s'.next)→aS.blk i=Γ.blk i)∧aA aS v v'
theorem nR (hO:cr P O) (d_:gq P ev) (hlo:gP ev) {lim:Nat} {f:FuncId} {args args':List Value} {s s':HS} {v:Value} {H:PT ak} (e:eB P O ev lim f args s = .ok v s') (hl:lim≤s.next) (hw:Wf s)
  (hS:bh Γ W H w) (hx:Ext s.heap H) (ha:aF Γ args args') (hf:Free Γ s.next s'.next) (r:Option Nat):
  CallsIn (Fw r) 0 P f ⟨args'⟩ w fun e w'=>∃ aS v' H',e = .returned v'∧Ex Γ aS lim s s' W H H' w'∧aA aS v v':=by
 unfold eB at e
 cases hO':O f args with
 |none=>simp only[hO'] at e;exact nQ d_ hlo e hl hw hS hx ha hf r
 |some m=>
  simp only[hO'] at e
  obtain⟨H',e',h6,h7,h8,_,h9⟩:=sB (dJ m) e hl hw hx
  have:=hO f args m hO' Γ W w H s.next lim s.rd s.wr args' v _ ha hS e' hf
  have key:CallsIn Fence.wide 0 P f ⟨args'⟩ w fun e w'=>∃ aS v' H',e = .returned v'∧Ex Γ aS lim s s' W H H' w'∧aA aS v v':=by
   refine CallsIn.mono this ?_
   rintro en w' ⟨aS,v',rfl,h2,h3,h4,h5⟩
   exact⟨aS,v',H',rfl,⟨h2,h3,h4,h6,h7,h8,h9⟩,h5⟩
  exact key
theorem ke {h:PT ak} (hS:bh Γ W h w) {l l':Nat} (hl:Γ.blk l=some (l',0)) {st:LoopState} {gH:Option Code} {tm:Tm} {ps:List Tmp} {as bd:Code} (hb:h.get l=some (.loop st gH tm ps as bd)):
  ∃ L:Loop,w.heap[l']? = some (.loop L)∧L.state=st∧L.pending=gH∧fm Γ tm L.tmps∧L.params.toList=ps∧L.assign=as∧L.body=bd:=by
 obtain⟨b,s,e,⟨rfl,L,hL⟩,_⟩:=hS.live _ _ hb
 rw[hl] at e
 obtain⟨rfl,_⟩:l'=b∧0=0:=by simpa using e
 exact⟨L,hL⟩
theorem sD {h:PT ak} (hS:bh Γ W h w) {l l':Nat} (hl:Γ.blk l=some (l',0)) {st st':LoopState} {gH xV:Option Code} {tm:Tm} {ps:List Tmp} {as bd:Code} (hb:h.get l=some (.loop st gH tm ps as bd))
  {L:Loop} (hL:w.heap[l']? = some (.loop L)) (h4:fm Γ tm L.tmps) (h5:L.params.toList=ps) (h6:L.assign=as) (h7:L.body=bd):
  bh Γ W (h.set l (some (.loop st' xV tm ps as bd))) { w with heap:=w.heap.setIfInBounds l' (.loop { L with state:=st',pending:=xV }) }:=
 hS.rP hb hl trivial trivial (fun w' ⟨_,L,q,_⟩=>⟨_,q,rfl⟩) rfl (fun w' q=>⟨rfl,_,q,rfl,rfl,h4,h5,h6,h7⟩)
theorem CY {l l':Nat} (hl:Γ.blk l=some (l',0)):fD P Γ (pq l) (Instr.beginRound l') (fun _ _ _=>True):=by
 intro W h n w hS
 unfold pq
 refine aj.get fun B hB=>?_
 split
 ·rename_i gH tm ps as bd
  obtain⟨L,h1,h2,h3,h4,h5,h6,h7⟩:=ke hS hl hB
  have iO:=sD (st' := .busy) (xV:=gH) hS hl hB h1 h4 h5 h6 h7
  refine aj.set (e':=pure ()) ?_ (aj.ok iO rfl trivial)
  have vK:(Instr.getLoop l').run P w = .ok L w:=by simp[Instr.getLoop,getObj,Sem.run,h1]
  have zH:∀ o,(setObj l' o).run P w = .ok () { w with heap:=w.heap.setIfInBounds l' o }:=fun o=>by simp[setObj,Sem.run,h1]
  have hLp:({ L with state:=LoopState.busy,pending:=gH }:Loop)={ L with state := .busy }:=by rw[←h3]
  rw[hLp]
  simp[Instr.beginRound,vK,zH,h2]
 ·exact aj.fail
theorem Ji {l l':Nat} (hl:Γ.blk l=some (l',0)) (jump:Option Code):fD P Γ (vv l jump) (Instr.endRound l' jump) aA:=by
 intro W h n w hS
 unfold vv
 refine aj.get fun B hB=>?_
 split
 ·rename_i st gH tm ps as bd
  obtain⟨L,h1,h2,h3,h4,h5,h6,h7⟩:=ke hS hl hB
  have iO:=sD (st':=cond jump.isNone .ready .done) (xV:=jump) hS hl hB h1 h4 h5 h6 h7
  refine aj.set (e':=pure (.bool jump.isNone)) ?_ (aj.ok iO rfl (.bool _))
  have vK:(Instr.getLoop l').run P w = .ok L w:=by simp[Instr.getLoop,getObj,Sem.run,h1]
  have zH:∀ o,(setObj l' o).run P w = .ok () { w with heap:=w.heap.setIfInBounds l' o }:=fun o=>by simp[setObj,Sem.run,h1]
  simp only[Instr.endRound,Sem.run_bind,vK,Result.andThen_ok,zH,Sem.run_pure]
  cases jump<;>rfl
 ·exact aj.fail
theorem EV {l l':Nat} (hl:Γ.blk l=some (l',0)):fD P Γ (om l) (Instr.endLoop l') (fun _ x j=>j=exitCode x):=by
 intro W h n w hS
 unfold om
 refine aj.get fun B hB=>?_
 cases B with
 |loop st gH tm ps as bd=>
  obtain⟨L,h1,h2,h3,h4,h5,h6,h7⟩:=ke hS hl hB
  have vK:(Instr.getLoop l').run P w = .ok L w:=by simp[Instr.getLoop,getObj,Sem.run,h1]
  have zH:∀ o,(setObj l' o).run P w = .ok () { w with heap:=w.heap.setIfInBounds l' o }:=fun o=>by simp[setObj,Sem.run,h1]
  have hLp:({ L with state:=LoopState.exhausted,pending:=gH }:Loop)={ L with state := .exhausted }:=by rw[←h3]
  have iO:=sD (st' := .exhausted) (xV:=gH) hS hl hB h1 h4 h5 h6 h7
  rw[hLp] at iO
  have hrun:st ≠ .busy→(Instr.endLoop l').run P w = .ok gH { w with heap:=w.heap.setIfInBounds l' (.loop { L with state := .exhausted }) }:=by
   intro hst
   have:(L.state==LoopState.busy)=false:=by rw[h2];cases st<;>first |rfl |exact absurd rfl hst
   simp only[Instr.endLoop,Sem.run_bind,vK,Result.andThen_ok,this,Bool.false_eq_true,if_false,zH,Sem.run_pure,h3]
  have fin:st ≠ .busy→aj P Γ W h n w (match gH with
    |none => .set l (.loop .exhausted none tm ps as bd) (.pure .normal)
    |some .ret => .set l (.loop .exhausted (some .ret) tm ps as bd) (.pure .ret)
    |some (.exit id) => .set l (.loop .exhausted (some (.exit id)) tm ps as bd) (.pure (.exit id))
    |some _ => .fail "range jump") (Instr.endLoop l') (fun _ x j=>j=exitCode x):=by
   intro hst
   have hrun:=hrun hst
   split
   ·exact aj.set (e':=pure none) hrun (aj.ok iO rfl rfl)
   ·exact aj.set (e':=pure (some .ret)) hrun (aj.ok iO rfl rfl)
   ·exact aj.set (e':=pure (some (.exit _))) hrun (aj.ok iO rfl rfl)
   ·exact aj.fail
  cases st with
  |busy=>exact aj.fail
  |ready=>exact fin (by simp)
  |done=>exact fin (by simp)
  |exhausted=>exact fin (by simp)
 | _=>exact aj.fail
theorem xW (d_:gq P ev) (hlo:gP ev) {lim:Nat} {l l':Nat} {m:Tm} {fn:FuncId} {tmps:Array Value} {as bd:Code} {s s':HS} {v:Value} {H:PT ak} (e:fN ev lim l m as bd s = .ok v s') (hl:lim≤s.next) (hw:Wf s)
  (hS:bh Γ W H w) (hx:Ext s.heap H) (hb:Γ.blk l=some (l',0)) (ht:fm Γ m tmps) (hd:m.eS=[]) (hf:Free Γ s.next s'.next) (r:Option Nat):
  RoundIn (Fw r) 0 P l' fn tmps as bd w fun e w'=>∃ aS v' H',e = .returned v'∧Ex Γ aS lim s s' W H H' w'∧aA aS v v':=by
 unfold fN at e
 obtain⟨x,s₁,e₁,e₂⟩:=bq e
 obtain⟨hn₁,eU⟩:=eY (hlo _ _ _ _) e₁ hl hw
 cases hx1:x.1 with
 |exit id=>simp[hx1] at e₂
 |ret=>simp[hx1] at e₂
 |normal=>
  simp only[hx1] at e₂
  obtain⟨_,s₂,e₃,e₄⟩:=bq e₂
  obtain⟨hn₂,xX⟩:=eY (dJ _) e₃ (Nat.le_trans hl hn₁) eU
  obtain⟨y,s₃,e₅,e₆⟩:=bq e₄
  obtain⟨Sv,xY⟩:=eY (hlo _ _ _ _) e₅ (by omega) xX
  have Sw:=(eY (dJ _) e₆ (by omega) xY).1
  refine roundIn_of_wpIn trivial ?_
  refine d_ (some l) lim as m s x s₁ e₁ hl hw Γ W w { tmps,defers:=[] } (some l') H hS hx ⟨ht,by rw[hd];exact .nil⟩ (.yes _ _ hb) (hf.sub (by omega)) _ ?_
  intro cB w₁ a₁ H₁ cD Ni
  rw[hx1]
  show ∃ w₂,_∧_
  have hb₁:=cD.le.blk _ _ hb
  obtain⟨dA,w₂,_,H₂,kg,dK,_⟩:=mN (CY (P:=P) hb₁) e₃ (by omega) eU cD.rel cD.sub (hf.after cD |>.sub (by omega))
  refine⟨w₂,kg,?_⟩
  have jR:=cD.trans dK
  refine d_ (some l) lim bd x.2 s₂ y s₃ e₅ (by omega) xX dA W w₂ a₁ (some l') H₂ dK.rel dK.sub (Ni.mono dK.le) (.yes _ _ (dK.le.blk _ _ hb₁)) (hf.after jR |>.sub (by omega)) _ ?_
  intro Sx w₃ a₃ aaO kj aaP
  have iQ:=jR.trans kj
  have EW:=iQ.le.blk _ _ hb
  obtain⟨xZ,Jj,v',Nj,vP,vQ,hv⟩:=mN (Ji (P:=P) EW (exitCode y.1)) e₆ (by omega) xY kj.rel kj.sub (hf.after iQ)
  have fin:∃ v w',(Instr.endRound l' (exitCode y.1)).run P w₃ = .ok v w'∧(fun e w'=>∃ aS v' H',e=Ending.returned v'∧Ex Γ aS lim s s' W H H' w'∧aA aS _ v') (.returned v) w':=
   ⟨v',Jj,vP,xZ,v',Nj,rfl,iQ.trans vQ,hv⟩
  cases hy:y.1 with
  |normal=>rw[hy] at fin;exact fin
  |ret=>rw[hy] at fin;exact fin
  |exit id=>rw[hy] at fin;exact fin
theorem EX {o:Oper} (h:∀ c,o.op ≠ .defer c) (r:Option Nat) (ρ:Operand→Value):o.semAt r ρ=execOp ρ o:=Oper.semAt_eq r ρ o h
theorem CZ {ρ:Operand→Value} {o:Oper} {c:Call} (h:o.op = .defer c):jk P ρ o = .fail "operation":=by
 unfold jk;rw[h]
theorem C0 (hO:cr P O) (d_:gq P ev) (hlo:gP ev) {lim:Nat} {ρ:Operand→Value} {o:Oper} {a:Act} {s s':HS} {v:Value} {H:PT ak} (e:iE P O ev lim ρ o s = .ok v s') (hl:lim≤s.next) (hw:Wf s)
  (hS:bh Γ W H w) (hx:Ext s.heap H) (hρ:∀ x,x∈o.op.operands→aX x=true→aA Γ (ρ x) (a.eval x)) (hf:Free Γ s.next s'.next) (r:Option Nat) {next:Act→World→Prop} {Q:Exit→Act→World→Prop}
  (hk:∀ aS w' v' H',Ex Γ aS lim s s' W H H' w'→aA aS v v'→next (a.put o.dst v') w'):o.wpIn (Fw r) 0 P a w next Q:=by
 unfold iE at e
 cases hfl:o.op.operands.toList.all aX with
 |false=>simp[hfl] at e
 |true=>
  simp only[hfl,cond_true] at e
  obtain⟨x,s₁,e₁,e₂⟩:=bq e
  obtain⟨hn₁,eU⟩:=eY (dJ _) e₁ hl hw
  have hn₂:=(eY (xQ (P:=P) (lim:=lim) hlo x) e₂ (Nat.le_trans hl hn₁) eU).1
  have aaQ:∀ x∈o.op.operands,aA Γ (ρ x) (a.eval x):=fun x hx=>hρ x hx (List.all_eq_true.1 hfl x (by simpa using hx))
  obtain⟨cB,w₁,nx,H₁,hrun,cD,Ef⟩:=mN (Jd (P:=P) aaQ) e₁ hl hw hS hx (hf.sub hn₂)
  have hnd:∀ c,o.op ≠ .defer c:=fun c hc=>by rw[CZ hc] at e₁;simp[AP.run] at e₁
  refine⟨fun _ _=>trivial,?_⟩
  rw[EX hnd,hrun]
  have LK:=hf.after cD
  cases Ef with
  |value _ v' hv=>
   simp only[eC,aH.ok.injEq] at e₂
   obtain⟨rfl,rfl⟩:=e₂
   exact hk cB w₁ v' H₁ cD hv
  |skip=>
   simp only[eC,aH.ok.injEq] at e₂
   obtain⟨rfl,rfl⟩:=e₂
   exact hk cB w₁ undef H₁ cD (.tuple _ _ .nil)
  |enter f args args' ha=>
   refine⟨fun h=>by simp[Fw] at h,?_⟩
   refine CallsIn.mono (nR hO d_ hlo e₂ (by omega) eU cD.rel cD.sub ha LK r) ?_
   rintro en w₂ ⟨dA,v',H₂,rfl,dK,hv⟩
   exact hk dA w₂ v' H₂ (cD.trans dK) hv
  |round l l' m fn tmps as bd hb ht hd=>
   refine⟨fun h=>by simp[Fw] at h,?_⟩
   refine RoundIn.mono (xW d_ hlo e₂ (by omega) eU cD.rel cD.sub hb ht hd LK r) ?_
   rintro en w₂ ⟨dA,v',H₂,rfl,dK,hv⟩
   exact hk dA w₂ v' H₂ (cD.trans dK) hv
theorem x8 {ops:List Oper} {m:Tm} {tmps:Array Value} (hm:fm Γ m tmps) (j:Nat):yielded ⟨ops⟩ tmps j=fc ops m j:=by
 unfold yielded fc
 have:(⟨ops⟩:Array Oper)[j]? = ops[j]? := by simp
 rw[this]
 cases ops[j]? with
 |none=>rfl
 |some o=>
  cases hd:o.dst with
  |none=>simp[hd]
  |some d=>
   simp only[Option.bind_some,hd]
   have hr:aA Γ (m.get d) (tmps.getD d undef):=hm.get d
   rw[Array.getD_eq_getD_getElem?] at hr
   generalize m.get d=u at hr
   cases ht:tmps[d]? with
   |none=>
    rw[ht] at hr
    simp only[Option.getD_none,undef] at hr
    cases hr
    rfl
   |some t=>
    rw[ht] at hr
    simp only[Option.getD_some] at hr
    cases hr<;>rfl
theorem Ap {ops:List Oper} {m:Tm} {tmps:Array Value} (hm:fm Γ m tmps) (o:Oper):Region.wanted o (yielded ⟨ops⟩ tmps)=bJ ops m o:=by
 unfold Region.wanted bJ
 cases o.guard with
 |none=>rfl
 |some g=>
  obtain⟨j,want⟩:=g
  dsimp only
  rw[x8 hm j]
  cases fc ops m j with
  |none=>rfl
  |some b=>cases b<;>cases want<;>rfl
theorem x9 (hO:cr P O) (d_:gq P ev) (hlo:gP ev) {lim:Nat} {ops:List Oper} {i:Nat} {o:Oper} (ho:ops[i]? = some o) {m m':Tm} {a:Act} {s s':HS} {H:PT ak} (e:kS P O ev lim ops o m s = .ok m' s') (hl:lim≤s.next) (hw:Wf s)
  (hS:bh Γ W H w) (hx:Ext s.heap H) (hm:sA Γ m a) (hf:Free Γ s.next s'.next) (r:Option Nat) {K:Act→World→Prop} {Q:Exit→Act→World→Prop}
  (hk:∀ aS w' a' H',Ex Γ aS lim s s' W H H' w'→sA aS m' a'→K a' w'):wpOpIn (Fw r) 0 P ⟨ops⟩ Q i K a w:=by
 unfold kS at e
 obtain⟨v,s₁,e₁,e₂⟩:=bq e
 have hput:m.put o.dst v=some m'∧s₁=s':=by
  unfold iF at e₂
  cases hp:m.put o.dst v with
  |none=>simp[hp] at e₂
  |some m₂=>
   simp only[hp,aH.ok.injEq] at e₂
   exact⟨by rw[e₂.1],e₂.2⟩
 obtain⟨hp,rfl⟩:=hput
 have ho':(⟨ops⟩:Array Oper)[i]? = some o:=by simpa using ho
 unfold wpOpIn
 simp only[ho']
 rw[Ap hm.tm o]
 cases hwt:bJ ops m o with
 |true=>
  simp only[hwt,cond_true] at e₁
  simp only[if_true]
  exact C0 hO d_ hlo e₁ hl hw hS hx (fun x _ hx=>sC hm.tm x hx) hf r fun aS w' v' H' hex hv=>hk aS w' _ H' hex ((hm.mono hex.le).put hv hp)
 |false=>
  simp only[hwt,cond_false,aH.ok.injEq] at e₁
  obtain⟨rfl,rfl⟩:=e₁
  simp only[Bool.false_eq_true,if_false]
  exact⟨fun _ _=>trivial,hk Γ w _ H (Ex.refl hS hx) (hm.put (.tuple _ _ .nil) hp)⟩
theorem uI (hO:cr P O) (d_:gq P ev) (hlo:gP ev) {lim:Nat} {ops:List Oper} {r:Option Nat} {Q:Exit→Act→World→Prop}:∀ (rest:List Oper) (k:Nat) (Γ:br) (w:World) (m m':Tm) (a:Act) (s s':HS) (H:PT ak),ops.drop k=rest→
  gX P O ev lim ops rest m s = .ok m' s'→lim≤s.next→Wf s→bh Γ W H w→Ext s.heap H→sA Γ m a→Free Γ s.next s'.next→
  (∀ aS w' a' H',Ex Γ aS lim s s' W H H' w'→sA aS m' a'→Q .normal a' w')→wpOpsIn (Fw r) 0 P ⟨ops⟩ Q (List.range' k rest.length) a w
 | [],k,Γ,w,m,m',a,s,s',H,hd,e,hl,hw,hS,hx,hm,hf,hk=>by
  simp only[gX,aH.ok.injEq] at e
  obtain⟨rfl,rfl⟩:=e
  exact hk Γ w a H (Ex.refl hS hx) hm
 |o::rest,k,Γ,w,m,m',a,s,s',H,hd,e,hl,hw,hS,hx,hm,hf,hk=>by
  simp only[gX] at e
  obtain⟨m₁,s₁,e₁,e₂⟩:=bq e
  obtain⟨hn₁,eU⟩:=eY (pG (P:=P) (lim:=lim) hlo ops o m) e₁ hl hw
  have hn₂:=(eY (vN (P:=P) (lim:=lim) hlo ops rest m₁) e₂ (Nat.le_trans hl hn₁) eU).1
  have ho:ops[k]? = some o:=by
   have:=congrArg (·[0]?) hd
   simpa using this
  have hd':ops.drop (k+1)=rest:=by
   have:=congrArg (List.drop 1) hd
   simpa [Nat.add_comm] using this
  rw[List.length_cons,List.range'_succ,wpOpsIn_cons]
  refine x9 hO d_ hlo ho e₁ hl hw hS hx hm (hf.sub hn₂) r fun cB w₁ a₁ H₁ cD hm₁=>?_
  exact uI hO d_ hlo rest (k+1) cB w₁ m₁ m' a₁ s₁ s' H₁ hd' e₂ (by omega) eU cD.rel cD.sub hm₁ (hf.after cD) fun dA w₂ a₂ H₂ dK hm₂=>hk dA w₂ a₂ H₂ (cD.trans dK) hm₂
end
end Go.Am
