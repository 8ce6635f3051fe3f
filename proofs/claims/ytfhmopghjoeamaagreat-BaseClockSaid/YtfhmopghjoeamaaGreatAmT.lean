/-
  The abstract machine: calls, rounds, operations, regions in the order of their text.
-/
import Derived.Test.YtfhmopghjoeamaaGreatAmS
set_option linter.unusedSimpArgs false
set_option linter.unusedVariables false
namespace Go.Am
open Go.RowKit
section
variable {P:Program} {O:Over} {ev:iA} {Γ:aT} {W w:World}
theorem aU {α β:Type} {r:aS α} {k:α→HS→aS β} {b:β} {s':HS} (h:bz r k = .ok b s'):∃ a s,r = .ok a s∧k a s = .ok b s':=by
 unfold bz at h
 split at h
 ·exact⟨_,_,rfl,h⟩
 ·simp at h
theorem BN {args args':List Value} (ha:aB Γ args args') (k:Nat):dA Γ ⟨args.length+(k-args.length),PT.ofList .leaf 0 args,[]⟩ ((⟨args'⟩:Array Value)++Array.replicate (k-(⟨args'⟩:Array Value).size) undef):=by
 have hlen:=ha.length
 refine⟨by simp[hlen],fun i=>?_⟩
 show ay Γ (match (PT.ofList .leaf 0 args).get i with |some v=>v |none => .tuple ⟨[]⟩) _
 rw[PT.aF,Array.getD_eq_getD_getElem?]
 by_cases hi:i<args.length
 ·obtain⟨v,hv⟩:∃ v,args[i]? = some v:=⟨args[i],by simp[hi]⟩
  obtain⟨v',Il,hr⟩:=ha.get hv
  rw[hv,Array.getElem?_append_left (by simp[hlen];exact hi)]
  have:(⟨args'⟩:Array Value)[i]? = some v':=by simpa using Il
  rw[this]
  exact hr
 ·rw[List.getElem?_eq_none (by omega)]
  rw[Array.getElem?_append_right (by simp[hlen];omega)]
  have:(Array.replicate (k-(⟨args'⟩:Array Value).size) undef)[i-(⟨args'⟩:Array Value).size]?.getD undef=undef:=by
   rw[Array.getElem?_replicate];split<;>rfl
  rw[this]
  exact .tuple _ _ .nil
theorem kj (cL:d_ P ev) (hlo:eF ev) {lim:Nat} {f:FuncId} {args args':List Value} {s s':HS} {v:Value} {H:PT ak} (e:eP P ev lim f args s = .ok v s') (hl:lim≤s.next) (hw:Wf s)
  (hS:aQ Γ W H w) (hx:Ext s.heap H) (ha:aB Γ args args') (hf:Free Γ s.next s'.next) (r:Option Nat):
  CallsIn (Fw r) 0 P f ⟨args'⟩ w fun e w'=>∃ aH v' H',e = .returned v'∧Ex Γ aH lim s s' W H H' w'∧ay aH v v':=by
 unfold eP at e
 cases hfn:P.funcs[f]? with
 |none=>simp[hfn] at e
 |some fn=>
  simp only[hfn] at e
  cases hb:fn.body with
  |none=>simp[hb] at e
  |some c=>
   simp only[hb] at e
   obtain⟨x,s₁,e₁,e₂⟩:=aU e
   obtain⟨hn₁,dc⟩:=dm (hlo _ _ _ _) e₁ hl hw
   have hn₂:=(dm (lG (P:=P) (lim:=lim) _ _) e₂ (Nat.le_trans hl hn₁) dc).1
   have key:CallsIn Fence.wide 0 P f ⟨args'⟩ w fun e w'=>∃ aH v' H',e = .returned v'∧Ex Γ aH lim s s' W H H' w'∧ay aH v v':=by
    refine callsIn_of_wp_marks hfn hb trivial ?_
    refine cL none lim c _ s x s₁ e₁ hl hw Γ W w { tmps:=(⟨args'⟩:Array Value)++Array.replicate (fn.ntmps-(⟨args'⟩:Array Value).size) undef,defers:=[] } none H hS hx ⟨BN ha _,.nil⟩ .no (hf.sub hn₂) _ ?_
    intro aH w' a' H₁ hex hfr
    obtain⟨H₂,e₂,Io,Ip,_,_,EB⟩:=oc (lG (P:=P) (lim:=lim) _ _) e₂ (Nat.le_trans hl hn₁) dc hex.sub
    unfold gK at e₂
    have fin:bz (dF lim x.2.gn ⟨H₁,s₁.next,s₁.rd,s₁.wr⟩) (fun _ s=>bz (bP P lim x.2 fn.results.toList s) fun l s => .ok (oneOf l) s) = .ok v ⟨H₂,s'.next,s'.rd,s'.wr⟩→
      LeavesInM Fence.wide 0 P fn a'.tmps (fun e w'=>∃ aH v' H',e = .returned v'∧Ex Γ aH lim s s' W H H' w'∧ay aH v v') a'.defers .returning w':=by
     intro e₃
     obtain⟨_,s₂,e₄,e₅⟩:=aU e₃
     obtain⟨l,s₃,e₆,Iq⟩:=aU e₅
     simp only[aS.ok.injEq] at Iq
     obtain⟨rfl,rfl⟩:=Iq
     obtain⟨g1,g2⟩:=pK (P:=P) (fn:=fn) (R:=fun e w'=>∃ aH v' H',e = .returned v'∧Ex Γ aH lim s s' W H H' w'∧ay aH (oneOf l) v') x.2.gn a'.defers ⟨H₁,s₁.next,s₁.rd,s₁.wr⟩ s₂ _ l w' hfr.tm hfr.df hex.rel e₄ e₆
     have g1:s'.next=s₁.next:=g1
     refine g2 fun w₂ v' sj hv=>⟨aH,v',H₂,rfl,hex.trans ⟨.refl _,sj,fun i hi=>rfl,Io,Ip,by omega,EB⟩,hv⟩
    cases hx:x.1 with
    |exit id=>simp[hx] at e₂
    |normal=>simp only[hx] at e₂;exact fin e₂
    |ret=>simp only[hx] at e₂;exact fin e₂
   exact key
def bW (P:Program) (O:Over):Prop:=
 ∀ f args m,O f args=some m→∀ (Γ:aT) (W w:World) (h:PT ak) (n lim:Nat) (rd wr:List Nat) (args':List Value) (v:Value) (s':HS),aB Γ args args'→aQ Γ W h w→m.run lim ⟨h,n,rd,wr⟩ = .ok v s'→Free Γ n s'.next→
  CallsIn Fence.wide 0 P f ⟨args'⟩ w fun e w'=>∃ aH v',e = .returned v'∧Γ.le aH∧aQ aH W s'.heap w'∧(∀ i,¬(n≤i∧i<s'.next)→aH.blk i=Γ.blk i)∧ay aH v v'
theorem ko (hO:bW P O) (cL:d_ P ev) (hlo:eF ev) {lim:Nat} {f:FuncId} {args args':List Value} {s s':HS} {v:Value} {H:PT ak} (e:dO P O ev lim f args s = .ok v s') (hl:lim≤s.next) (hw:Wf s)
  (hS:aQ Γ W H w) (hx:Ext s.heap H) (ha:aB Γ args args') (hf:Free Γ s.next s'.next) (r:Option Nat):
  CallsIn (Fw r) 0 P f ⟨args'⟩ w fun e w'=>∃ aH v' H',e = .returned v'∧Ex Γ aH lim s s' W H H' w'∧ay aH v v':=by
 unfold dO at e
 cases Oa:O f args with
 |none=>simp only[Oa] at e;exact kj cL hlo e hl hw hS hx ha hf r
 |some m=>
  simp only[Oa] at e
  obtain⟨H',e',h6,h7,h8,_,h9⟩:=oc (cm m) e hl hw hx
  have:=hO f args m Oa Γ W w H s.next lim s.rd s.wr args' v _ ha hS e' hf
  have key:CallsIn Fence.wide 0 P f ⟨args'⟩ w fun e w'=>∃ aH v' H',e = .returned v'∧Ex Γ aH lim s s' W H H' w'∧ay aH v v':=by
   refine CallsIn.mono this ?_
   rintro en w' ⟨aH,v',rfl,h2,h3,h4,h5⟩
   exact⟨aH,v',H',rfl,⟨h2,h3,h4,h6,h7,h8,h9⟩,h5⟩
  exact key
theorem iH {h:PT ak} (hS:aQ Γ W h w) {l l':Nat} (hl:Γ.blk l=some (l',0)) {st:LoopState} {eM:Option Code} {tm:Tm} {ps:List Tmp} {as bd:Code} (hb:h.get l=some (.loop st eM tm ps as bd)):
  ∃ L:Loop,w.heap[l']? = some (.loop L)∧L.state=st∧L.pending=eM∧dA Γ tm L.tmps∧L.params.toList=ps∧L.assign=as∧L.body=bd:=by
 obtain⟨b,s,e,⟨rfl,L,hL⟩,_⟩:=hS.live _ _ hb
 rw[hl] at e
 obtain⟨rfl,_⟩:l'=b∧0=0:=by simpa using e
 exact⟨L,hL⟩
theorem oh {h:PT ak} (hS:aQ Γ W h w) {l l':Nat} (hl:Γ.blk l=some (l',0)) {st st':LoopState} {eM sk:Option Code} {tm:Tm} {ps:List Tmp} {as bd:Code} (hb:h.get l=some (.loop st eM tm ps as bd))
  {L:Loop} (hL:w.heap[l']? = some (.loop L)) (h4:dA Γ tm L.tmps) (h5:L.params.toList=ps) (h6:L.assign=as) (h7:L.body=bd):
  aQ Γ W (h.set l (some (.loop st' sk tm ps as bd))) { w with heap:=w.heap.setIfInBounds l' (.loop { L with state:=st',pending:=sk }) }:=
 hS.nM hb hl trivial trivial (fun w' ⟨_,L,q,_⟩=>⟨_,q,rfl⟩) rfl (fun w' q=>⟨rfl,_,q,rfl,rfl,h4,h5,h6,h7⟩)
theorem wV {l l':Nat} (hl:Γ.blk l=some (l',0)):dH P Γ (lD l) (Instr.beginRound l') (fun _ _ _=>True):=by
 intro W h n w hS
 unfold lD
 refine ah.get fun B hB=>?_
 split
 ·rename_i eM tm ps as bd
  obtain⟨L,h1,h2,h3,h4,h5,h6,h7⟩:=iH hS hl hB
  have fJ:=oh (st' := .busy) (sk:=eM) hS hl hB h1 h4 h5 h6 h7
  refine ah.set (e':=pure ()) ?_ (ah.ok fJ rfl trivial)
  have qy:(Instr.getLoop l').run P w = .ok L w:=by simp[Instr.getLoop,getObj,Sem.run,h1]
  have tU:∀ o,(setObj l' o).run P w = .ok () { w with heap:=w.heap.setIfInBounds l' o }:=fun o=>by simp[setObj,Sem.run,h1]
  have Ob:({ L with state:=LoopState.busy,pending:=eM }:Loop)={ L with state := .busy }:=by rw[←h3]
  rw[Ob]
  simp[Instr.beginRound,qy,tU,h2]
 ·exact ah.fail
theorem BO {l l':Nat} (hl:Γ.blk l=some (l',0)) (jump:Option Code):dH P Γ (ql l jump) (Instr.endRound l' jump) ay:=by
 intro W h n w hS
 unfold ql
 refine ah.get fun B hB=>?_
 split
 ·rename_i st eM tm ps as bd
  obtain⟨L,h1,h2,h3,h4,h5,h6,h7⟩:=iH hS hl hB
  have fJ:=oh (st':=cond jump.isNone .ready .done) (sk:=jump) hS hl hB h1 h4 h5 h6 h7
  refine ah.set (e':=pure (.bool jump.isNone)) ?_ (ah.ok fJ rfl (.bool _))
  have qy:(Instr.getLoop l').run P w = .ok L w:=by simp[Instr.getLoop,getObj,Sem.run,h1]
  have tU:∀ o,(setObj l' o).run P w = .ok () { w with heap:=w.heap.setIfInBounds l' o }:=fun o=>by simp[setObj,Sem.run,h1]
  simp only[Instr.endRound,Sem.run_bind,qy,Result.andThen_ok,tU,Sem.run_pure]
  cases jump<;>rfl
 ·exact ah.fail
theorem yT {l l':Nat} (hl:Γ.blk l=some (l',0)):dH P Γ (nI l) (Instr.endLoop l') (fun _ x j=>j=exitCode x):=by
 intro W h n w hS
 unfold nI
 refine ah.get fun B hB=>?_
 cases B with
 |loop st eM tm ps as bd=>
  obtain⟨L,h1,h2,h3,h4,h5,h6,h7⟩:=iH hS hl hB
  have qy:(Instr.getLoop l').run P w = .ok L w:=by simp[Instr.getLoop,getObj,Sem.run,h1]
  have tU:∀ o,(setObj l' o).run P w = .ok () { w with heap:=w.heap.setIfInBounds l' o }:=fun o=>by simp[setObj,Sem.run,h1]
  have Ob:({ L with state:=LoopState.exhausted,pending:=eM }:Loop)={ L with state := .exhausted }:=by rw[←h3]
  have fJ:=oh (st' := .exhausted) (sk:=eM) hS hl hB h1 h4 h5 h6 h7
  rw[Ob] at fJ
  have hrun:st ≠ .busy→(Instr.endLoop l').run P w = .ok eM { w with heap:=w.heap.setIfInBounds l' (.loop { L with state := .exhausted }) }:=by
   intro hst
   have:(L.state==LoopState.busy)=false:=by rw[h2];cases st<;>first |rfl |exact absurd rfl hst
   simp only[Instr.endLoop,Sem.run_bind,qy,Result.andThen_ok,this,Bool.false_eq_true,if_false,tU,Sem.run_pure,h3]
  have fin:st ≠ .busy→ah P Γ W h n w (match eM with
    |none => .set l (.loop .exhausted none tm ps as bd) (.pure .normal)
    |some .ret => .set l (.loop .exhausted (some .ret) tm ps as bd) (.pure .ret)
    |some (.exit id) => .set l (.loop .exhausted (some (.exit id)) tm ps as bd) (.pure (.exit id))
    |some _ => .fail "range jump") (Instr.endLoop l') (fun _ x j=>j=exitCode x):=by
   intro hst
   have hrun:=hrun hst
   split
   ·exact ah.set (e':=pure none) hrun (ah.ok fJ rfl rfl)
   ·exact ah.set (e':=pure (some .ret)) hrun (ah.ok fJ rfl rfl)
   ·exact ah.set (e':=pure (some (.exit _))) hrun (ah.ok fJ rfl rfl)
   ·exact ah.fail
  cases st with
  |busy=>exact ah.fail
  |ready=>exact fin (by simp)
  |done=>exact fin (by simp)
  |exhausted=>exact fin (by simp)
 | _=>exact ah.fail
theorem su (cL:d_ P ev) (hlo:eF ev) {lim:Nat} {l l':Nat} {m:Tm} {fn:FuncId} {tmps:Array Value} {as bd:Code} {s s':HS} {v:Value} {H:PT ak} (e:dU ev lim l m as bd s = .ok v s') (hl:lim≤s.next) (hw:Wf s)
  (hS:aQ Γ W H w) (hx:Ext s.heap H) (hb:Γ.blk l=some (l',0)) (ht:dA Γ m tmps) (hd:m.gn=[]) (hf:Free Γ s.next s'.next) (r:Option Nat):
  RoundIn (Fw r) 0 P l' fn tmps as bd w fun e w'=>∃ aH v' H',e = .returned v'∧Ex Γ aH lim s s' W H H' w'∧ay aH v v':=by
 unfold dU at e
 obtain⟨x,s₁,e₁,e₂⟩:=aU e
 obtain⟨hn₁,dc⟩:=dm (hlo _ _ _ _) e₁ hl hw
 cases hx1:x.1 with
 |exit id=>simp[hx1] at e₂
 |ret=>simp[hx1] at e₂
 |normal=>
  simp only[hx1] at e₂
  obtain⟨_,s₂,e₃,e₄⟩:=aU e₂
  obtain⟨hn₂,sv⟩:=dm (cm _) e₃ (Nat.le_trans hl hn₁) dc
  obtain⟨y,s₃,e₅,e₆⟩:=aU e₄
  obtain⟨Ir,sx⟩:=dm (hlo _ _ _ _) e₅ (by omega) sv
  have Iu:=(dm (cm _) e₆ (by omega) sx).1
  refine roundIn_of_wpIn trivial ?_
  refine cL (some l) lim as m s x s₁ e₁ hl hw Γ W w { tmps,defers:=[] } (some l') H hS hx ⟨ht,by rw[hd];exact .nil⟩ (.yes _ _ hb) (hf.sub (by omega)) _ ?_
  intro bJ w₁ a₁ H₁ bN EC
  rw[hx1]
  show ∃ w₂,_∧_
  have hb₁:=bN.le.blk _ _ hb
  obtain⟨b_,w₂,_,H₂,iI,cq,_⟩:=jL (wV (P:=P) hb₁) e₃ (by omega) dc bN.rel bN.sub (hf.after bN |>.sub (by omega))
  refine⟨w₂,iI,?_⟩
  have gY:=bN.trans cq
  refine cL (some l) lim bd x.2 s₂ y s₃ e₅ (by omega) sv b_ W w₂ a₁ (some l') H₂ cq.rel cq.sub (EC.mono cq.le) (.yes _ _ (cq.le.blk _ _ hb₁)) (hf.after gY |>.sub (by omega)) _ ?_
  intro Iv w₃ a₃ Oc iJ Od
  have fL:=gY.trans iJ
  have yU:=fL.le.blk _ _ hb
  obtain⟨sy,BP,v',ED,qD,qE,hv⟩:=jL (BO (P:=P) yU (exitCode y.1)) e₆ (by omega) sx iJ.rel iJ.sub (hf.after fL)
  have fin:∃ v w',(Instr.endRound l' (exitCode y.1)).run P w₃ = .ok v w'∧(fun e w'=>∃ aH v' H',e=Ending.returned v'∧Ex Γ aH lim s s' W H H' w'∧ay aH _ v') (.returned v) w':=
   ⟨v',BP,qD,sy,v',ED,rfl,fL.trans qE,hv⟩
  cases hy:y.1 with
  |normal=>rw[hy] at fin;exact fin
  |ret=>rw[hy] at fin;exact fin
  |exit id=>rw[hy] at fin;exact fin
theorem yV {o:Oper} (h:∀ c,o.op ≠ .defer c) (r:Option Nat) (ρ:Operand→Value):o.semAt r ρ=execOp ρ o:=Oper.semAt_eq r ρ o h
theorem wW {ρ:Operand→Value} {o:Oper} {c:Call} (h:o.op = .defer c):gO P ρ o = .fail "operation":=by
 unfold gO;rw[h]
theorem wX (hO:bW P O) (cL:d_ P ev) (hlo:eF ev) {lim:Nat} {ρ:Operand→Value} {o:Oper} {a:Act} {s s':HS} {v:Value} {H:PT ak} (e:gS P O ev lim ρ o s = .ok v s') (hl:lim≤s.next) (hw:Wf s)
  (hS:aQ Γ W H w) (hx:Ext s.heap H) (hρ:∀ x,x∈o.op.operands→aW x=true→ay Γ (ρ x) (a.eval x)) (hf:Free Γ s.next s'.next) (r:Option Nat) {next:Act→World→Prop} {Q:Exit→Act→World→Prop}
  (hk:∀ aH w' v' H',Ex Γ aH lim s s' W H H' w'→ay aH v v'→next (a.put o.dst v') w'):o.wpIn (Fw r) 0 P a w next Q:=by
 unfold gS at e
 cases hfl:o.op.operands.toList.all aW with
 |false=>simp[hfl] at e
 |true=>
  simp only[hfl,cond_true] at e
  obtain⟨x,s₁,e₁,e₂⟩:=aU e
  obtain⟨hn₁,dc⟩:=dm (cm _) e₁ hl hw
  have hn₂:=(dm (rX (P:=P) (lim:=lim) hlo x) e₂ (Nat.le_trans hl hn₁) dc).1
  have Oe:∀ x∈o.op.operands,ay Γ (ρ x) (a.eval x):=fun x hx=>hρ x hx (List.all_eq_true.1 hfl x (by simpa using hx))
  obtain⟨bJ,w₁,nx,H₁,hrun,bN,x7⟩:=jL (BJ (P:=P) Oe) e₁ hl hw hS hx (hf.sub hn₂)
  have hnd:∀ c,o.op ≠ .defer c:=fun c hc=>by rw[wW hc] at e₁;simp[AP.run] at e₁
  refine⟨fun _ _=>trivial,?_⟩
  rw[yV hnd,hrun]
  have Dz:=hf.after bN
  cases x7 with
  |value _ v' hv=>
   simp only[ep,aS.ok.injEq] at e₂
   obtain⟨rfl,rfl⟩:=e₂
   exact hk bJ w₁ v' H₁ bN hv
  |skip=>
   simp only[ep,aS.ok.injEq] at e₂
   obtain⟨rfl,rfl⟩:=e₂
   exact hk bJ w₁ undef H₁ bN (.tuple _ _ .nil)
  |enter f args args' ha=>
   refine⟨fun h=>by simp[Fw] at h,?_⟩
   refine CallsIn.mono (ko hO cL hlo e₂ (by omega) dc bN.rel bN.sub ha Dz r) ?_
   rintro en w₂ ⟨b_,v',H₂,rfl,cq,hv⟩
   exact hk b_ w₂ v' H₂ (bN.trans cq) hv
  |round l l' m fn tmps as bd hb ht hd=>
   refine⟨fun h=>by simp[Fw] at h,?_⟩
   refine RoundIn.mono (su cL hlo e₂ (by omega) dc bN.rel bN.sub hb ht hd Dz r) ?_
   rintro en w₂ ⟨b_,v',H₂,rfl,cq,hv⟩
   exact hk b_ w₂ v' H₂ (bN.trans cq) hv
theorem sA {ops:List Oper} {m:Tm} {tmps:Array Value} (hm:dA Γ m tmps) (j:Nat):yielded ⟨ops⟩ tmps j=eO ops m j:=by
 unfold yielded eO
 have:(⟨ops⟩:Array Oper)[j]? = ops[j]? := by simp
 rw[this]
 cases ops[j]? with
 |none=>rfl
 |some o=>
  cases hd:o.dst with
  |none=>simp[hd]
  |some d=>
   simp only[Option.bind_some,hd]
   have hr:ay Γ (m.get d) (tmps.getD d undef):=hm.get d
   rw[Array.getD_eq_getD_getElem?] at hr
   generalize m.get d=u at hr
   cases ht:tmps[d]? with
   |none=>
    rw[ht] at hr
    simp only[Option.getD_none,undef] at hr
    cases hr
    rfl
   |some t=>
    rw[ht] at hr
    simp only[Option.getD_some] at hr
    cases hr<;>rfl
theorem uN {ops:List Oper} {m:Tm} {tmps:Array Value} (hm:dA Γ m tmps) (o:Oper):Region.wanted o (yielded ⟨ops⟩ tmps)=bM ops m o:=by
 unfold Region.wanted bM
 cases o.guard with
 |none=>rfl
 |some g=>
  obtain⟨j,want⟩:=g
  dsimp only
  rw[sA hm j]
  cases eO ops m j with
  |none=>rfl
  |some b=>cases b<;>cases want<;>rfl
theorem sB (hO:bW P O) (cL:d_ P ev) (hlo:eF ev) {lim:Nat} {ops:List Oper} {i:Nat} {o:Oper} (ho:ops[i]? = some o) {m m':Tm} {a:Act} {s s':HS} {H:PT ak} (e:kE P O ev lim ops o m s = .ok m' s') (hl:lim≤s.next) (hw:Wf s)
  (hS:aQ Γ W H w) (hx:Ext s.heap H) (hm:oa Γ m a) (hf:Free Γ s.next s'.next) (r:Option Nat) {K:Act→World→Prop} {Q:Exit→Act→World→Prop}
  (hk:∀ aH w' a' H',Ex Γ aH lim s s' W H H' w'→oa aH m' a'→K a' w'):wpOpIn (Fw r) 0 P ⟨ops⟩ Q i K a w:=by
 unfold kE at e
 obtain⟨v,s₁,e₁,e₂⟩:=aU e
 have hput:m.put o.dst v=some m'∧s₁=s':=by
  unfold gT at e₂
  cases hp:m.put o.dst v with
  |none=>simp[hp] at e₂
  |some m₂=>
   simp only[hp,aS.ok.injEq] at e₂
   exact⟨by rw[e₂.1],e₂.2⟩
 obtain⟨hp,rfl⟩:=hput
 have ho':(⟨ops⟩:Array Oper)[i]? = some o:=by simpa using ho
 unfold wpOpIn
 simp only[ho']
 rw[uN hm.tm o]
 cases RQ:bM ops m o with
 |true=>
  simp only[RQ,cond_true] at e₁
  simp only[if_true]
  exact wX hO cL hlo e₁ hl hw hS hx (fun x _ hx=>og hm.tm x hx) hf r fun aH w' v' H' hex hv=>hk aH w' _ H' hex ((hm.mono hex.le).put hv hp)
 |false=>
  simp only[RQ,cond_false,aS.ok.injEq] at e₁
  obtain⟨rfl,rfl⟩:=e₁
  simp only[Bool.false_eq_true,if_false]
  exact⟨fun _ _=>trivial,hk Γ w _ H (Ex.refl hS hx) (hm.put (.tuple _ _ .nil) hp)⟩
theorem pL (hO:bW P O) (cL:d_ P ev) (hlo:eF ev) {lim:Nat} {ops:List Oper} {r:Option Nat} {Q:Exit→Act→World→Prop}:∀ (rest:List Oper) (k:Nat) (Γ:aT) (w:World) (m m':Tm) (a:Act) (s s':HS) (H:PT ak),ops.drop k=rest→
  gp P O ev lim ops rest m s = .ok m' s'→lim≤s.next→Wf s→aQ Γ W H w→Ext s.heap H→oa Γ m a→Free Γ s.next s'.next→
  (∀ aH w' a' H',Ex Γ aH lim s s' W H H' w'→oa aH m' a'→Q .normal a' w')→wpOpsIn (Fw r) 0 P ⟨ops⟩ Q (List.range' k rest.length) a w
 | [],k,Γ,w,m,m',a,s,s',H,hd,e,hl,hw,hS,hx,hm,hf,hk=>by
  simp only[gp,aS.ok.injEq] at e
  obtain⟨rfl,rfl⟩:=e
  exact hk Γ w a H (Ex.refl hS hx) hm
 |o::rest,k,Γ,w,m,m',a,s,s',H,hd,e,hl,hw,hS,hx,hm,hf,hk=>by
  simp only[gp] at e
  obtain⟨m₁,s₁,e₁,e₂⟩:=aU e
  obtain⟨hn₁,dc⟩:=dm (lH (P:=P) (lim:=lim) hlo ops o m) e₁ hl hw
  have hn₂:=(dm (qB (P:=P) (lim:=lim) hlo ops rest m₁) e₂ (Nat.le_trans hl hn₁) dc).1
  have ho:ops[k]? = some o:=by
   have:=congrArg (·[0]?) hd
   simpa using this
  have hd':ops.drop (k+1)=rest:=by
   have:=congrArg (List.drop 1) hd
   simpa [Nat.add_comm] using this
  rw[List.length_cons,List.range'_succ,wpOpsIn_cons]
  refine sB hO cL hlo ho e₁ hl hw hS hx hm (hf.sub hn₂) r fun bJ w₁ a₁ H₁ bN hm₁=>?_
  exact pL hO cL hlo rest (k+1) bJ w₁ m₁ m' a₁ s₁ s' H₁ hd' e₂ (by omega) dc bN.rel bN.sub hm₁ (hf.after bN) fun b_ w₂ a₂ H₂ cq hm₂=>hk b_ w₂ a₂ H₂ (bN.trans cq) hm₂
end
end Go.Am
