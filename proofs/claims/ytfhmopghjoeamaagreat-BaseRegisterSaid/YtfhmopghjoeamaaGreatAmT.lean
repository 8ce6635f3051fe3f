/-
  The abstract machine: calls, rounds, operations, regions in the order of their text.
-/
import Derived.Test.YtfhmopghjoeamaaGreatAmS
set_option linter.unusedSimpArgs false
set_option linter.unusedVariables false
namespace Go.Am
open Go.RowKit
section
variable {P:Program} {O:Over} {ev:jd} {Γ:aV} {W w:World}
theorem aX {α β:Type} {r:aW α} {k:α→HS→aW β} {b:β} {s':HS} (h:bF r k = .ok b s'):∃ a s,r = .ok a s∧k a s = .ok b s':=by
 unfold bF at h
 split at h
 ·exact⟨_,_,rfl,h⟩
 ·simp at h
theorem EO {args args':List Value} (ha:aD Γ args args') (k:Nat):dU Γ ⟨args.length+(k-args.length),PT.ofList .leaf 0 args,[]⟩ ((⟨args'⟩:Array Value)++Array.replicate (k-(⟨args'⟩:Array Value).size) undef):=by
 have hlen:=ha.length
 refine⟨by simp[hlen],fun i=>?_⟩
 show ay Γ (match (PT.ofList .leaf 0 args).get i with |some v=>v |none => .tuple ⟨[]⟩) _
 rw[PT.aF,Array.getD_eq_getD_getElem?]
 by_cases hi:i<args.length
 ·obtain⟨v,hv⟩:∃ v,args[i]? = some v:=⟨args[i],by simp[hi]⟩
  obtain⟨v',MG,hr⟩:=ha.get hv
  rw[hv,Array.getElem?_append_left (by simp[hlen];exact hi)]
  have:(⟨args'⟩:Array Value)[i]? = some v':=by simpa using MG
  rw[this]
  exact hr
 ·rw[List.getElem?_eq_none (by omega)]
  rw[Array.getElem?_append_right (by simp[hlen];omega)]
  have:(Array.replicate (k-(⟨args'⟩:Array Value).size) undef)[i-(⟨args'⟩:Array Value).size]?.getD undef=undef:=by
   rw[Array.getElem?_replicate];split<;>rfl
  rw[this]
  exact .tuple _ _ .nil
theorem lG (dm:eM P ev) (hlo:fm ev) {lim:Nat} {f:FuncId} {args args':List Value} {s s':HS} {v:Value} {H:PT aj} (e:fG P ev lim f args s = .ok v s') (hl:lim≤s.next) (hw:Wf s)
  (hS:aR Γ W H w) (hx:Ext s.heap H) (ha:aD Γ args args') (hf:Free Γ s.next s'.next) (r:Option Nat):
  CallsIn (Fw r) 0 P f ⟨args'⟩ w fun e w'=>∃ aI v' H',e = .returned v'∧Ex Γ aI lim s s' W H H' w'∧ay aI v v':=by
 unfold fG at e
 cases hfn:P.funcs[f]? with
 |none=>simp[hfn] at e
 |some fn=>
  simp only[hfn] at e
  cases hb:fn.body with
  |none=>simp[hb] at e
  |some c=>
   simp only[hb] at e
   obtain⟨x,s₁,e₁,e₂⟩:=aX e
   obtain⟨hn₁,dO⟩:=dR (hlo _ _ _ _) e₁ hl hw
   have hn₂:=(dR (nG (P:=P) (lim:=lim) _ _) e₂ (Nat.le_trans hl hn₁) dO).1
   have key:CallsIn Fence.wide 0 P f ⟨args'⟩ w fun e w'=>∃ aI v' H',e = .returned v'∧Ex Γ aI lim s s' W H H' w'∧ay aI v v':=by
    refine callsIn_of_wp_marks hfn hb trivial ?_
    refine dm none lim c _ s x s₁ e₁ hl hw Γ W w { tmps:=(⟨args'⟩:Array Value)++Array.replicate (fn.ntmps-(⟨args'⟩:Array Value).size) undef,defers:=[] } none H hS hx ⟨EO ha _,.nil⟩ .no (hf.sub hn₂) _ ?_
    intro aI w' a' H₁ hex hfr
    obtain⟨H₂,e₂,MH,MI,_,_,IC⟩:=qd (nG (P:=P) (lim:=lim) _ _) e₂ (Nat.le_trans hl hn₁) dO hex.sub
    unfold iz at e₂
    have fin:bF (dX lim x.2.fO ⟨H₁,s₁.next,s₁.rd,s₁.wr⟩) (fun _ s=>bF (bY P lim x.2 fn.results.toList s) fun l s => .ok (oneOf l) s) = .ok v ⟨H₂,s'.next,s'.rd,s'.wr⟩→
      LeavesInM Fence.wide 0 P fn a'.tmps (fun e w'=>∃ aI v' H',e = .returned v'∧Ex Γ aI lim s s' W H H' w'∧ay aI v v') a'.defers .returning w':=by
     intro e₃
     obtain⟨_,s₂,e₄,e₅⟩:=aX e₃
     obtain⟨l,s₃,e₆,MJ⟩:=aX e₅
     simp only[aW.ok.injEq] at MJ
     obtain⟨rfl,rfl⟩:=MJ
     obtain⟨g1,g2⟩:=rK (P:=P) (fn:=fn) (R:=fun e w'=>∃ aI v' H',e = .returned v'∧Ex Γ aI lim s s' W H H' w'∧ay aI (oneOf l) v') x.2.fO a'.defers ⟨H₁,s₁.next,s₁.rd,s₁.wr⟩ s₂ _ l w' hfr.tm hfr.df hex.rel e₄ e₆
     have g1:s'.next=s₁.next:=g1
     refine g2 fun w₂ v' uR hv=>⟨aI,v',H₂,rfl,hex.trans ⟨.refl _,uR,fun i hi=>rfl,MH,MI,by omega,IC⟩,hv⟩
    cases hx:x.1 with
    |exit id=>simp[hx] at e₂
    |normal=>simp only[hx] at e₂;exact fin e₂
    |ret=>simp only[hx] at e₂;exact fin e₂
   exact key
def cr (P:Program) (O:Over):Prop:=
 ∀ f args m,O f args=some m→∀ (Γ:aV) (W w:World) (h:PT aj) (n lim:Nat) (rd wr:List Nat) (args':List Value) (v:Value) (s':HS),aD Γ args args'→aR Γ W h w→m.run lim ⟨h,n,rd,wr⟩ = .ok v s'→Free Γ n s'.next→
  CallsIn Fence.wide 0 P f ⟨args'⟩ w fun e w'=>∃ aI v',e = .returned v'∧Γ.le aI∧aR aI W s'.heap w'∧(∀ i,¬(n≤i∧i<s'.next)→aI.blk i=Γ.blk i)∧ay aI v v'
theorem lH (hO:cr P O) (dm:eM P ev) (hlo:fm ev) {lim:Nat} {f:FuncId} {args args':List Value} {s s':HS} {v:Value} {H:PT aj} (e:ew P O ev lim f args s = .ok v s') (hl:lim≤s.next) (hw:Wf s)
  (hS:aR Γ W H w) (hx:Ext s.heap H) (ha:aD Γ args args') (hf:Free Γ s.next s'.next) (r:Option Nat):
  CallsIn (Fw r) 0 P f ⟨args'⟩ w fun e w'=>∃ aI v' H',e = .returned v'∧Ex Γ aI lim s s' W H H' w'∧ay aI v v':=by
 unfold ew at e
 cases TW:O f args with
 |none=>simp only[TW] at e;exact lG dm hlo e hl hw hS hx ha hf r
 |some m=>
  simp only[TW] at e
  obtain⟨H',e',h6,h7,h8,_,h9⟩:=qd (cL m) e hl hw hx
  have:=hO f args m TW Γ W w H s.next lim s.rd s.wr args' v _ ha hS e' hf
  have key:CallsIn Fence.wide 0 P f ⟨args'⟩ w fun e w'=>∃ aI v' H',e = .returned v'∧Ex Γ aI lim s s' W H H' w'∧ay aI v v':=by
   refine CallsIn.mono this ?_
   rintro en w' ⟨aI,v',rfl,h2,h3,h4,h5⟩
   exact⟨aI,v',H',rfl,⟨h2,h3,h4,h6,h7,h8,h9⟩,h5⟩
  exact key
theorem jl {h:PT aj} (hS:aR Γ W h w) {l l':Nat} (hl:Γ.blk l=some (l',0)) {st:LoopState} {fD:Option Code} {tm:Tm} {ps:List Tmp} {as bd:Code} (hb:h.get l=some (.loop st fD tm ps as bd)):
  ∃ L:Loop,w.heap[l']? = some (.loop L)∧L.state=st∧L.pending=fD∧dU Γ tm L.tmps∧L.params.toList=ps∧L.assign=as∧L.body=bd:=by
 obtain⟨b,s,e,⟨rfl,L,hL⟩,_⟩:=hS.live _ _ hb
 rw[hl] at e
 obtain⟨rfl,_⟩:l'=b∧0=0:=by simpa using e
 exact⟨L,hL⟩
theorem qh {h:PT aj} (hS:aR Γ W h w) {l l':Nat} (hl:Γ.blk l=some (l',0)) {st st':LoopState} {fD uS:Option Code} {tm:Tm} {ps:List Tmp} {as bd:Code} (hb:h.get l=some (.loop st fD tm ps as bd))
  {L:Loop} (hL:w.heap[l']? = some (.loop L)) (h4:dU Γ tm L.tmps) (h5:L.params.toList=ps) (h6:L.assign=as) (h7:L.body=bd):
  aR Γ W (h.set l (some (.loop st' uS tm ps as bd))) { w with heap:=w.heap.setIfInBounds l' (.loop { L with state:=st',pending:=uS }) }:=
 hS.pO hb hl trivial trivial (fun w' ⟨_,L,q,_⟩=>⟨_,q,rfl⟩) rfl (fun w' q=>⟨rfl,_,q,rfl,rfl,h4,h5,h6,h7⟩)
theorem zI {l l':Nat} (hl:Γ.blk l=some (l',0)):dZ P Γ (nC l) (Instr.beginRound l') (fun _ _ _=>True):=by
 intro W h n w hS
 unfold nC
 refine ah.get fun B hB=>?_
 split
 ·rename_i fD tm ps as bd
  obtain⟨L,h1,h2,h3,h4,h5,h6,h7⟩:=jl hS hl hB
  have gj:=qh (st' := .busy) (uS:=fD) hS hl hB h1 h4 h5 h6 h7
  refine ah.set (e':=pure ()) ?_ (ah.ok gj rfl trivial)
  have sX:(Instr.getLoop l').run P w = .ok L w:=by simp[Instr.getLoop,getObj,Sem.run,h1]
  have wu:∀ o,(setObj l' o).run P w = .ok () { w with heap:=w.heap.setIfInBounds l' o }:=fun o=>by simp[setObj,Sem.run,h1]
  have TX:({ L with state:=LoopState.busy,pending:=fD }:Loop)={ L with state := .busy }:=by rw[←h3]
  rw[TX]
  simp[Instr.beginRound,sX,wu,h2]
 ·exact ah.fail
theorem EP {l l':Nat} (hl:Γ.blk l=some (l',0)) (jump:Option Code):dZ P Γ (sM l jump) (Instr.endRound l' jump) ay:=by
 intro W h n w hS
 unfold sM
 refine ah.get fun B hB=>?_
 split
 ·rename_i st fD tm ps as bd
  obtain⟨L,h1,h2,h3,h4,h5,h6,h7⟩:=jl hS hl hB
  have gj:=qh (st':=cond jump.isNone .ready .done) (uS:=jump) hS hl hB h1 h4 h5 h6 h7
  refine ah.set (e':=pure (.bool jump.isNone)) ?_ (ah.ok gj rfl (.bool _))
  have sX:(Instr.getLoop l').run P w = .ok L w:=by simp[Instr.getLoop,getObj,Sem.run,h1]
  have wu:∀ o,(setObj l' o).run P w = .ok () { w with heap:=w.heap.setIfInBounds l' o }:=fun o=>by simp[setObj,Sem.run,h1]
  simp only[Instr.endRound,Sem.run_bind,sX,Result.andThen_ok,wu,Sem.run_pure]
  cases jump<;>rfl
 ·exact ah.fail
theorem BD {l l':Nat} (hl:Γ.blk l=some (l',0)):dZ P Γ (pK l) (Instr.endLoop l') (fun _ x j=>j=exitCode x):=by
 intro W h n w hS
 unfold pK
 refine ah.get fun B hB=>?_
 cases B with
 |loop st fD tm ps as bd=>
  obtain⟨L,h1,h2,h3,h4,h5,h6,h7⟩:=jl hS hl hB
  have sX:(Instr.getLoop l').run P w = .ok L w:=by simp[Instr.getLoop,getObj,Sem.run,h1]
  have wu:∀ o,(setObj l' o).run P w = .ok () { w with heap:=w.heap.setIfInBounds l' o }:=fun o=>by simp[setObj,Sem.run,h1]
  have TX:({ L with state:=LoopState.exhausted,pending:=fD }:Loop)={ L with state := .exhausted }:=by rw[←h3]
  have gj:=qh (st' := .exhausted) (uS:=fD) hS hl hB h1 h4 h5 h6 h7
  rw[TX] at gj
  have hrun:st ≠ .busy→(Instr.endLoop l').run P w = .ok fD { w with heap:=w.heap.setIfInBounds l' (.loop { L with state := .exhausted }) }:=by
   intro hst
   have:(L.state==LoopState.busy)=false:=by rw[h2];cases st<;>first |rfl |exact absurd rfl hst
   simp only[Instr.endLoop,Sem.run_bind,sX,Result.andThen_ok,this,Bool.false_eq_true,if_false,wu,Sem.run_pure,h3]
  have fin:st ≠ .busy→ah P Γ W h n w (match fD with
    |none => .set l (.loop .exhausted none tm ps as bd) (.pure .normal)
    |some .ret => .set l (.loop .exhausted (some .ret) tm ps as bd) (.pure .ret)
    |some (.exit id) => .set l (.loop .exhausted (some (.exit id)) tm ps as bd) (.pure (.exit id))
    |some _ => .fail "range jump") (Instr.endLoop l') (fun _ x j=>j=exitCode x):=by
   intro hst
   have hrun:=hrun hst
   split
   ·exact ah.set (e':=pure none) hrun (ah.ok gj rfl rfl)
   ·exact ah.set (e':=pure (some .ret)) hrun (ah.ok gj rfl rfl)
   ·exact ah.set (e':=pure (some (.exit _))) hrun (ah.ok gj rfl rfl)
   ·exact ah.fail
  cases st with
  |busy=>exact ah.fail
  |ready=>exact fin (by simp)
  |done=>exact fin (by simp)
  |exhausted=>exact fin (by simp)
 | _=>exact ah.fail
theorem uT (dm:eM P ev) (hlo:fm ev) {lim:Nat} {l l':Nat} {m:Tm} {fn:FuncId} {tmps:Array Value} {as bd:Code} {s s':HS} {v:Value} {H:PT aj} (e:eD ev lim l m as bd s = .ok v s') (hl:lim≤s.next) (hw:Wf s)
  (hS:aR Γ W H w) (hx:Ext s.heap H) (hb:Γ.blk l=some (l',0)) (ht:dU Γ m tmps) (hd:m.fO=[]) (hf:Free Γ s.next s'.next) (r:Option Nat):
  RoundIn (Fw r) 0 P l' fn tmps as bd w fun e w'=>∃ aI v' H',e = .returned v'∧Ex Γ aI lim s s' W H H' w'∧ay aI v v':=by
 unfold eD at e
 obtain⟨x,s₁,e₁,e₂⟩:=aX e
 obtain⟨hn₁,dO⟩:=dR (hlo _ _ _ _) e₁ hl hw
 cases hx1:x.1 with
 |exit id=>simp[hx1] at e₂
 |ret=>simp[hx1] at e₂
 |normal=>
  simp only[hx1] at e₂
  obtain⟨_,s₂,e₃,e₄⟩:=aX e₂
  obtain⟨hn₂,uU⟩:=dR (cL _) e₃ (Nat.le_trans hl hn₁) dO
  obtain⟨y,s₃,e₅,e₆⟩:=aX e₄
  obtain⟨MK,uV⟩:=dR (hlo _ _ _ _) e₅ (by omega) uU
  have ML:=(dR (cL _) e₆ (by omega) uV).1
  refine roundIn_of_wpIn trivial ?_
  refine dm (some l) lim as m s x s₁ e₁ hl hw Γ W w { tmps,defers:=[] } (some l') H hS hx ⟨ht,by rw[hd];exact .nil⟩ (.yes _ _ hb) (hf.sub (by omega)) _ ?_
  intro bP w₁ a₁ H₁ bV IE
  rw[hx1]
  show ∃ w₂,_∧_
  have hb₁:=bV.le.blk _ _ hb
  obtain⟨cG,w₂,_,H₂,jm,cM,_⟩:=kJ (zI (P:=P) hb₁) e₃ (by omega) dO bV.rel bV.sub (hf.after bV |>.sub (by omega))
  refine⟨w₂,jm,?_⟩
  have iP:=bV.trans cM
  refine dm (some l) lim bd x.2 s₂ y s₃ e₅ (by omega) uU cG W w₂ a₁ (some l') H₂ cM.rel cM.sub (IE.mono cM.le) (.yes _ _ (cM.le.blk _ _ hb₁)) (hf.after iP |>.sub (by omega)) _ ?_
  intro MN w₃ a₃ TY jo T0
  have gp:=iP.trans jo
  have BF:=gp.le.blk _ _ hb
  obtain⟨uW,ER,v',IF,tq,tA,hv⟩:=kJ (EP (P:=P) BF (exitCode y.1)) e₆ (by omega) uV jo.rel jo.sub (hf.after gp)
  have fin:∃ v w',(Instr.endRound l' (exitCode y.1)).run P w₃ = .ok v w'∧(fun e w'=>∃ aI v' H',e=Ending.returned v'∧Ex Γ aI lim s s' W H H' w'∧ay aI _ v') (.returned v) w':=
   ⟨v',ER,tq,uW,v',IF,rfl,gp.trans tA,hv⟩
  cases hy:y.1 with
  |normal=>rw[hy] at fin;exact fin
  |ret=>rw[hy] at fin;exact fin
  |exit id=>rw[hy] at fin;exact fin
theorem BG {o:Oper} (h:∀ c,o.op ≠ .defer c) (r:Option Nat) (ρ:Operand→Value):o.semAt r ρ=execOp ρ o:=Oper.semAt_eq r ρ o h
theorem zJ {ρ:Operand→Value} {o:Oper} {c:Call} (h:o.op = .defer c):iE P ρ o = .fail "operation":=by
 unfold iE;rw[h]
theorem zK (hO:cr P O) (dm:eM P ev) (hlo:fm ev) {lim:Nat} {ρ:Operand→Value} {o:Oper} {a:Act} {s s':HS} {v:Value} {H:PT aj} (e:iJ P O ev lim ρ o s = .ok v s') (hl:lim≤s.next) (hw:Wf s)
  (hS:aR Γ W H w) (hx:Ext s.heap H) (hρ:∀ x,x∈o.op.operands→a_ x=true→ay Γ (ρ x) (a.eval x)) (hf:Free Γ s.next s'.next) (r:Option Nat) {next:Act→World→Prop} {Q:Exit→Act→World→Prop}
  (hk:∀ aI w' v' H',Ex Γ aI lim s s' W H H' w'→ay aI v v'→next (a.put o.dst v') w'):o.wpIn (Fw r) 0 P a w next Q:=by
 unfold iJ at e
 cases hfl:o.op.operands.toList.all a_ with
 |false=>simp[hfl] at e
 |true=>
  simp only[hfl,cond_true] at e
  obtain⟨x,s₁,e₁,e₂⟩:=aX e
  obtain⟨hn₁,dO⟩:=dR (cL _) e₁ hl hw
  have hn₂:=(dR (uN (P:=P) (lim:=lim) hlo x) e₂ (Nat.le_trans hl hn₁) dO).1
  have T4:∀ x∈o.op.operands,ay Γ (ρ x) (a.eval x):=fun x hx=>hρ x hx (List.all_eq_true.1 hfl x (by simpa using hx))
  obtain⟨bP,w₁,nx,H₁,hrun,bV,AV⟩:=kJ (EK (P:=P) T4) e₁ hl hw hS hx (hf.sub hn₂)
  have hnd:∀ c,o.op ≠ .defer c:=fun c hc=>by rw[zJ hc] at e₁;simp[AP.run] at e₁
  refine⟨fun _ _=>trivial,?_⟩
  rw[BG hnd,hrun]
  have G4:=hf.after bV
  cases AV with
  |value _ v' hv=>
   simp only[eS,aW.ok.injEq] at e₂
   obtain⟨rfl,rfl⟩:=e₂
   exact hk bP w₁ v' H₁ bV hv
  |skip=>
   simp only[eS,aW.ok.injEq] at e₂
   obtain⟨rfl,rfl⟩:=e₂
   exact hk bP w₁ undef H₁ bV (.tuple _ _ .nil)
  |enter f args args' ha=>
   refine⟨fun h=>by simp[Fw] at h,?_⟩
   refine CallsIn.mono (lH hO dm hlo e₂ (by omega) dO bV.rel bV.sub ha G4 r) ?_
   rintro en w₂ ⟨cG,v',H₂,rfl,cM,hv⟩
   exact hk cG w₂ v' H₂ (bV.trans cM) hv
  |round l l' m fn tmps as bd hb ht hd=>
   refine⟨fun h=>by simp[Fw] at h,?_⟩
   refine RoundIn.mono (uT dm hlo e₂ (by omega) dO bV.rel bV.sub hb ht hd G4 r) ?_
   rintro en w₂ ⟨cG,v',H₂,rfl,cM,hv⟩
   exact hk cG w₂ v' H₂ (bV.trans cM) hv
theorem uX {ops:List Oper} {m:Tm} {tmps:Array Value} (hm:dU Γ m tmps) (j:Nat):yielded ⟨ops⟩ tmps j=fF ops m j:=by
 unfold yielded fF
 have:(⟨ops⟩:Array Oper)[j]? = ops[j]? := by simp
 rw[this]
 cases ops[j]? with
 |none=>rfl
 |some o=>
  cases hd:o.dst with
  |none=>simp[hd]
  |some d=>
   simp only[Option.bind_some,hd]
   have hr:ay Γ (m.get d) (tmps.getD d undef):=hm.get d
   rw[Array.getD_eq_getD_getElem?] at hr
   generalize m.get d=u at hr
   cases ht:tmps[d]? with
   |none=>
    rw[ht] at hr
    simp only[Option.getD_none,undef] at hr
    cases hr
    rfl
   |some t=>
    rw[ht] at hr
    simp only[Option.getD_some] at hr
    cases hr<;>rfl
theorem xq {ops:List Oper} {m:Tm} {tmps:Array Value} (hm:dU Γ m tmps) (o:Oper):Region.wanted o (yielded ⟨ops⟩ tmps)=bU ops m o:=by
 unfold Region.wanted bU
 cases o.guard with
 |none=>rfl
 |some g=>
  obtain⟨j,want⟩:=g
  dsimp only
  rw[uX hm j]
  cases fF ops m j with
  |none=>rfl
  |some b=>cases b<;>cases want<;>rfl
theorem uY (hO:cr P O) (dm:eM P ev) (hlo:fm ev) {lim:Nat} {ops:List Oper} {i:Nat} {o:Oper} (ho:ops[i]? = some o) {m m':Tm} {a:Act} {s s':HS} {H:PT aj} (e:lV P O ev lim ops o m s = .ok m' s') (hl:lim≤s.next) (hw:Wf s)
  (hS:aR Γ W H w) (hx:Ext s.heap H) (hm:qc Γ m a) (hf:Free Γ s.next s'.next) (r:Option Nat) {K:Act→World→Prop} {Q:Exit→Act→World→Prop}
  (hk:∀ aI w' a' H',Ex Γ aI lim s s' W H H' w'→qc aI m' a'→K a' w'):wpOpIn (Fw r) 0 P ⟨ops⟩ Q i K a w:=by
 unfold lV at e
 obtain⟨v,s₁,e₁,e₂⟩:=aX e
 have hput:m.put o.dst v=some m'∧s₁=s':=by
  unfold iK at e₂
  cases hp:m.put o.dst v with
  |none=>simp[hp] at e₂
  |some m₂=>
   simp only[hp,aW.ok.injEq] at e₂
   exact⟨by rw[e₂.1],e₂.2⟩
 obtain⟨hp,rfl⟩:=hput
 have ho':(⟨ops⟩:Array Oper)[i]? = some o:=by simpa using ho
 unfold wpOpIn
 simp only[ho']
 rw[xq hm.tm o]
 cases XP:bU ops m o with
 |true=>
  simp only[XP,cond_true] at e₁
  simp only[if_true]
  exact zK hO dm hlo e₁ hl hw hS hx (fun x _ hx=>qg hm.tm x hx) hf r fun aI w' v' H' hex hv=>hk aI w' _ H' hex ((hm.mono hex.le).put hv hp)
 |false=>
  simp only[XP,cond_false,aW.ok.injEq] at e₁
  obtain⟨rfl,rfl⟩:=e₁
  simp only[Bool.false_eq_true,if_false]
  exact⟨fun _ _=>trivial,hk Γ w _ H (Ex.refl hS hx) (hm.put (.tuple _ _ .nil) hp)⟩
theorem rN (hO:cr P O) (dm:eM P ev) (hlo:fm ev) {lim:Nat} {ops:List Oper} {r:Option Nat} {Q:Exit→Act→World→Prop}:∀ (rest:List Oper) (k:Nat) (Γ:aV) (w:World) (m m':Tm) (a:Act) (s s':HS) (H:PT aj),ops.drop k=rest→
  gU P O ev lim ops rest m s = .ok m' s'→lim≤s.next→Wf s→aR Γ W H w→Ext s.heap H→qc Γ m a→Free Γ s.next s'.next→
  (∀ aI w' a' H',Ex Γ aI lim s s' W H H' w'→qc aI m' a'→Q .normal a' w')→wpOpsIn (Fw r) 0 P ⟨ops⟩ Q (List.range' k rest.length) a w
 | [],k,Γ,w,m,m',a,s,s',H,hd,e,hl,hw,hS,hx,hm,hf,hk=>by
  simp only[gU,aW.ok.injEq] at e
  obtain⟨rfl,rfl⟩:=e
  exact hk Γ w a H (Ex.refl hS hx) hm
 |o::rest,k,Γ,w,m,m',a,s,s',H,hd,e,hl,hw,hS,hx,hm,hf,hk=>by
  simp only[gU] at e
  obtain⟨m₁,s₁,e₁,e₂⟩:=aX e
  obtain⟨hn₁,dO⟩:=dR (nH (P:=P) (lim:=lim) hlo ops o m) e₁ hl hw
  have hn₂:=(dR (td (P:=P) (lim:=lim) hlo ops rest m₁) e₂ (Nat.le_trans hl hn₁) dO).1
  have ho:ops[k]? = some o:=by
   have:=congrArg (·[0]?) hd
   simpa using this
  have hd':ops.drop (k+1)=rest:=by
   have:=congrArg (List.drop 1) hd
   simpa [Nat.add_comm] using this
  rw[List.length_cons,List.range'_succ,wpOpsIn_cons]
  refine uY hO dm hlo ho e₁ hl hw hS hx hm (hf.sub hn₂) r fun bP w₁ a₁ H₁ bV hm₁=>?_
  exact rN hO dm hlo rest (k+1) bP w₁ m₁ m' a₁ s₁ s' H₁ hd' e₂ (by omega) dO bV.rel bV.sub hm₁ (hf.after bV) fun cG w₂ a₂ H₂ cM hm₂=>hk cG w₂ a₂ H₂ (bV.trans cM) hm₂
end
end Go.Am
