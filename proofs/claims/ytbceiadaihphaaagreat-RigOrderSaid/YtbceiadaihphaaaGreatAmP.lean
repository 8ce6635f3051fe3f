/-
  The abstract machine: receivers and methods; the call's target; the operation whole.
-/
import Derived.Test.YtbceiadaihphaaaGreatAmO
set_option linter.unusedSimpArgs false
set_option linter.unusedVariables false
namespace Go.Am
open Go.RowKit
section
variable {P:Program} {Γ:bu} {W w:World} {h:PT aj} {n:Nat}
inductive tI (Γ:bu):Value ⊕ Addr→Place→Prop
 |val (v v':Value) (h:aF Γ v v'):tI Γ (.inl v) (.val v')
 |var (a a':Addr) (h:Γ.addr a a'):tI Γ (.inr a) (.var a')
def WL (Γ:bu) (x:TypeId×(Value ⊕ Addr)) (y:TypeId×Place):Prop:=x.1=y.1∧tI Γ x.2 y.2
theorem qi {t:TypeId} {a a':Addr} (ha:Γ.addr a a'):fK P Γ (fT P t (.pointer (some a))) (loadVar t a') aF:=by
 intro W h n w hS
 refine ak.congr (w':=w) (e':=Instr.loadAt t (.pointer (some a'))) ?_ (tE (.ptr _ _ ha) W h n w hS)
 simp[Instr.loadAt,Instr.sureAddr]
theorem jL {t:TypeId} {x:Value ⊕ Addr} {y:Place} (hx:tI Γ x y):fK P Γ (jG P t x) (y.get t) aF:=by
 cases hx with
 |val v v' hv=>exact fun W h n w hS=>ak.ok hS rfl hv
 |var a a' ha=>exact qi ha
theorem lJ {a:Addr} {f:Field} {i:TypeInfo} (hi:P.info? f.type=some i) (hz:i.size≠0) (w:World):(fieldPlace a f).run P w = .ok (a.add f.offset) w:=by
 simp[fieldPlace,bF hi,hz]
theorem ak.run_bind {α β γ:Type} {m:AP α} {e:Sem γ} {g:γ→Sem β} {c:γ} {R:bu→α→β→Prop} (he:e.run P w = .ok c w) (hk:ak P Γ W h n w m (g c) R):ak P Γ W h n w m (e >>= g) R:=
 ak.congr (w':=w) (by rw[Sem.run_bind,he];rfl) hk
theorem gY:∀ (path:List FieldStep) (Γ:bu) (t:TypeId) (x:Value ⊕ Addr) (y:Place),tI Γ x y→fK P Γ (j_ P path t x) (follow path t y) WL
 | [],Γ,t,x,y,hx=>fun W h n w hS=>ak.ok hS rfl ⟨rfl,hx⟩
 |s::rest,Γ,t,x,y,hx=>by
  intro W h n w hS
  unfold j_
  split
  ·rename_i fs hd
   split
   ·rename_i f hf
    have hf':fs[s.index]? = some f:=by simpa using hf
    split
    ·rename_i i hi
     cases hz:Nat.beq i.size 0 with
     |true=>exact ak.fail
     |false=>
      have hz:i.size≠0:=fun e=>by rw[e] at hz;exact Bool.noConfusion hz
      simp only[cond_false]
      cases Nx:s.deref with
      |true=>
       simp only[cond_true]
       have hrun:(follow (s::rest) t y).run P w=(do
         let v ←y.get t
         let a ←asAddr v
         follow rest f.type (.var (←fieldPlace a f)):Sem (TypeId×Place)).run P w:=by
        simp only[follow,Sem.run_bind,aD hd,Result.andThen_ok,hf',Nx,if_true]
       refine ak.congr hrun ?_
       refine ak.bind (jL hx W h n w hS) fun aS v v' hle hv=>?_
       intro W h n w hS
       split
       ·rename_i a
        cases hv with
        |ptr _ a' ha=>
         refine ak.run_bind (c:=a') rfl ?_
         refine ak.run_bind (c:=a'.add f.offset) (lJ hi hz w) ?_
         exact gY rest aS f.type _ _ (.var _ _ (ha.add _)) W h n w hS
       ·exact ak.fail
      |false=>
       simp only[cond_false]
       split
       ·rename_i a
        cases hx with
        |var _ a' ha=>
         have hrun:(follow (s::rest) t (.var a')).run P w=(follow rest f.type (.var (a'.add f.offset))).run P w:=by
          simp[follow,aD hd,hf',Nx,lJ hi hz]
         exact ak.congr hrun (gY rest Γ f.type _ _ (.var _ _ (ha.add _)) W h n w hS)
       ·rename_i cs
        cases hx with
        |val _ _ hv=>
         cases hv with
         |agg l l' hl=>
          split
          ·rename_i v hv
           obtain⟨v',hr,gX⟩:=fF hl hv
           have hrun:(follow (s::rest) t (.val (.agg ⟨l'⟩))).run P w=(follow rest f.type (.val v')).run P w:=by
            simp[follow,aD hd,hf',Nx,hr]
           exact ak.congr hrun (gY rest Γ f.type _ _ (.val _ _ gX) W h n w hS)
          ·exact ak.fail
       ·exact ak.fail
    ·exact ak.fail
   ·exact ak.fail
  ·exact ak.fail
theorem vQ (xt:TypeId) (a:Addr) (s m:String) (w:World):(Builtin.ssaWrapNilChk_ #[xt] xt #[.pointer (some a),strVal s,strVal m]).run P w = .ok (.pointer (some a)) w:=rfl
theorem nq {xt:TypeId} {x:Value ⊕ Addr} {y:Place} {ptr:Bool} {wr:Option String} (hx:tI Γ x y):fK P Γ (mG P xt x ptr) (receiverAt xt y ptr wr) aF:=by
 intro W h n w hS
 unfold mG
 split
 ·rename_i e hd
  refine ak.congr (w':=w) (e':=y.get xt) ?_ (jL hx W h n w hS)
  simp only[receiverAt,Sem.run_bind,aD hd,Result.andThen_ok]
 ·rename_i e hd
  refine ak.congr (w':=w) (e':=do
   let p ←y.get xt
   let p ←match wr with
    |some name=>Builtin.ssaWrapNilChk_ #[xt] xt #[p,strVal "",strVal name]
    |none=>pure p
   loadVar e (←asAddr p)) ?_ ?_
  ·simp only[receiverAt,Sem.run_bind,aD hd,Result.andThen_ok]
   cases wr<;>rfl
  ·refine ak.bind (jL hx W h n w hS) fun aS v v' hle hv=>?_
   intro W h n w hS
   split
   ·rename_i a
    cases hv with
    |ptr _ a' ha=>
     refine ak.congr (w':=w) (e':=loadVar e a') ?_ (qi ha W h n w hS)
     cases wr with
     |none=>simp[asAddr]
     |some s=>simp only[Sem.run_bind,vQ,Result.andThen_ok,asAddr,Sem.run_pure]
   ·exact ak.fail
 ·rename_i d a hn1 hd
  cases hx with
  |var _ a' ha=>
   refine ak.ok hS (b := .pointer (some a')) ?_ (.ptr _ _ ha)
   simp only[receiverAt,Sem.run_bind,aD hd,Result.andThen_ok]
   cases d<;>first |rfl |exact(hn1 _ rfl).elim
 ·rename_i _ d hn2 hd
  refine ak.congr (w':=w) (e':=y.get xt) ?_ (jL hx W h n w hS)
  simp only[receiverAt,Sem.run_bind,aD hd,Result.andThen_ok]
 ·exact ak.fail
def Pw (Γ:bu) (x:FuncId×Value) (y:FuncId×Value):Prop:=x.1=y.1∧aF Γ x.2 y.2
theorem qj:∀ (d D:Nat) (_:d≤D) (Γ:bu) (t:TypeId) (v v':Value) (name:String),aF Γ v v'→fK P Γ (qG P d t v name) (method D t v' name) Pw
 |0,D,_,Γ,t,v,v',name,hv=>fun W h n w hS=>ak.fail
 |d+1,0,hD,Γ,t,v,v',name,hv=>absurd hD (by omega)
 |d+1,D+1,hD,Γ,t,v,v',name,hv=>by
  intro W h n w hS
  unfold qG
  split
  ·rename_i i hi
   split
   ·rename_i m hm
    have hm':i.methods.find? (fun m=>m.name==name)=some m:=by rw[←Array.find?_toList];exact hm
    refine ak.congr (w':=w) (e':=do
     let (xt,x) ←follow m.path.toList t (.val v')
     match m.func with
     |none=>
      match ←x.get xt with
      | .iface t' v'=>method D t' v' name
      | .nilIface=>runtimePanic .nilDeref
      | _=>stuck "method row: interface value expected"
     |some (f,pointerReceiver)=>
      pure (f,←receiverAt xt x pointerReceiver (if m.path.isEmpty then some ((name.splitOn ".").getLastD name) else none))) ?_ ?_
    ·simp only[method,Sem.run_bind,dj hi,Result.andThen_ok,hm']
     rfl
    ·refine ak.bind (gY m.path.toList Γ t _ _ (.val _ _ hv) W h n w hS) fun aS p q hle hpq=>?_
     obtain⟨xt,x⟩:=p
     obtain⟨WM,y⟩:=q
     obtain⟨he,hx⟩:=hpq
     obtain rfl:xt=WM:=he
     intro W h n w hS
     dsimp only
     cases hmf:m.func with
     |some fp=>
      obtain⟨f,ptr⟩:=fp
      dsimp only
      refine ak.bind (nq hx W h n w hS) fun KH r r' hle' hr=>?_
      exact fun W h n w hS=>ak.ok hS rfl ⟨rfl,hr⟩
     |none=>
      dsimp only
      refine ak.bind (jL hx W h n w hS) fun KH r r' hle' hr=>?_
      intro W h n w hS
      split
      ·rename_i t' u
       cases hr with
       |iface _ _ u' hu=>exact qj d D (by omega) KH t' u u' name hu W h n w hS
      ·exact ak.fail
   ·exact ak.fail
  ·exact ak.fail
inductive ux (Γ:bu):aJ→Next→Prop
 |value (v v':Value) (h:aF Γ v v'):ux Γ (.value v) (.value v')
 |skip:ux Γ .skip .skip
 |enter (f:FuncId) (args args':List Value) (h:aH Γ args args'):ux Γ (.enter f args) (.enter f ⟨args'⟩)
 |round (l l':Nat) (m:Tm) (fn:FuncId) (tmps:Array Value) (as bd:Code) (h:Γ.bW l=some (l',0)) (ht:fE Γ m tmps) (hd:m.gD=[]):ux Γ (.round l m as bd) (.round l' fn tmps as bd)
theorem jx {f:FuncId} {args args':List Value} (ha:aH Γ args args'):fK P Γ (aq P f args) (callFunc f ⟨args'⟩) ux:=by
 intro W h n w hS
 unfold aq
 split
 ·rename_i fn hf
  cases KG:(fn.name == "runtime.NumGoroutine") with
  |true=>exact ak.fail
  |false=>
   simp only[cond_false]
   cases hb:fn.body.isSome with
   |true=>
    refine ak.ok hS (b := .enter f ⟨args'⟩) ?_ (.enter _ _ _ ha)
    have hb':fn.body.isNone=false:=by cases um:fn.body with |none=>rw[um] at hb;simp at hb |some c=>rfl
    unfold callFunc
    simp only[Sem.run_bind,run_program,Result.andThen_ok,hf,KG,Bool.false_eq_true,if_false,hb',Sem.run_pure]
   |false=>
    simp only[cond_false]
    split
    ·rename_i k hk
     unfold vq at hk
     have hk':=List.find?_some hk
     simp only[Bool.and_eq_true,Bool.or_eq_true,beq_iff_eq] at hk'
     refine ak.congr (w':=w) (e':=do let v ←eF k ⟨args'⟩;pure (.value v)) ?_ ?_
     ·rw[yu hf hb hk'.1 hk'.2,Sem.run_bind]
      rfl
     ·refine ak.bind (vO k ha W h n w hS) fun aS v v' hle hv=>?_
      exact fun W h n w hS=>ak.ok hS rfl (.value _ _ hv)
    ·exact ak.fail
 ·exact ak.fail
theorem fM {recv recv':Value} {name:String} {args args':List Value} (hr:aF Γ recv recv') (ha:aH Γ args args'):fK P Γ (aI P recv name args) (callMethod recv' name ⟨args'⟩) ux:=by
 intro W h n w hS
 unfold aI
 split
 ·rename_i t v
  cases hr with
  |iface _ _ v' hv=>
   refine ak.congr (w':=w) (e':=do
    let (f,r) ←method (P.types.size+Made.depth) t v' name
    callFunc f (#[r]++⟨args'⟩)) ?_ ?_
   ·simp only[callMethod,Sem.run_bind,run_program,Result.andThen_ok]
   ·refine ak.bind (qj 6 _ (by unfold Made.depth;omega) Γ t v v' name hv W h n w hS) fun aS p q hle hpq=>?_
    obtain⟨f,r⟩:=p
    obtain⟨f',r'⟩:=q
    obtain⟨he,hr⟩:=hpq
    obtain rfl:f=f':=he
    have oD:(#[r']++(⟨args'⟩:Array Value))=⟨r'::args'⟩:=by apply Array.ext';simp
    dsimp only
    rw[oD]
    exact jx (.cons _ _ _ _ hr (ha.mono hle))
 ·exact ak.fail
theorem fE.put {m m':Tm} {tmps:Array Value} {v v':Value} {i:Nat} (hm:fE Γ m tmps) (hv:aF Γ v v') (e:m.put (some i) v=some m'):fE Γ m' (tmps.setIfInBounds i v')∧m'.gD=m.gD:=by
 unfold Tm.put at e
 cases hlt:Nat.blt i m.n with
 |false=>simp[hlt] at e
 |true=>
  have hlt:i<m.n:=Nat.blt_eq.mp hlt
  simp only[Nat.blt_eq.mpr hlt,cond_true,Option.some.injEq] at e
  subst e
  refine⟨⟨by simp[hm.size],fun j=>?_⟩,rfl⟩
  by_cases hj:j=i
  ·subst hj
   have:j<tmps.size:=by rw[←hm.size];exact hlt
   simp only[PT.gi,Array.getD_eq_getD_getElem?]
   rw[Array.getElem?_setIfInBounds_self_of_lt this]
   exact hv
  ·have:=hm.get j
   simp only[PT.cF _ _ (Ne.symm hj),Array.getD_eq_getD_getElem?] at this ⊢
   rw[Array.getElem?_setIfInBounds_ne (Ne.symm hj)]
   exact this
theorem qk:∀ (ps:List Tmp) (args args':List Value) (m m':Tm) (tmps:Array Value),aH Γ args args'→fE Γ m tmps→eH ps args m=some m'→
  fE Γ m' ((ps.zip args').foldl (fun (t:Array Value) (p:Tmp×Value)=>t.setIfInBounds p.1 p.2) tmps)∧ps.length=args'.length
 | [],args,args',m,m',tmps,ha,hm,e=>by
  cases ha with
  |nil=>
   simp only[eH,Option.some.injEq] at e
   subst e
   exact⟨hm,rfl⟩
  |cons=>simp[eH] at e
 |d::ds,args,args',m,m',tmps,ha,hm,e=>by
  cases ha with
  |nil=>simp[eH] at e
  |cons v v' l l' hv hl=>
   simp only[eH] at e
   split at e
   ·rename_i m1 hm1
    obtain⟨h1,h2⟩:=qk ds l l' m1 m' _ hl (hm.put hv hm1).1 e
    exact⟨by simpa using h1,by simp[h2]⟩
   ·simp at e
theorem A3 {l l':Nat} {args args':List Value} (hl:Γ.bW l=some (l',0)) (ha:aH Γ args args') (captured:List Value):fK P Γ (fI P (.yield l) captured args) (Instr.yield l' ⟨args'⟩) ux:=by
 intro W h n w hS
 unfold fI
 refine ak.get fun B hB=>?_
 split
 ·rename_i st ig tm ps as bd
  obtain⟨b,s,e,⟨rfl,L,h1,h2,h3,h4,h5,h6,h7⟩,_⟩:=hS.live _ _ hB
  rw[hl] at e
  obtain⟨rfl,_⟩:l'=b∧0=0:=by simpa using e
  split
  ·rename_i m hm
   obtain⟨g1,g2⟩:=qk ps args args' tm m L.tmps ha h4 hm
   refine ak.ok hS (b := .round l' L.fn ((L.params.zip ⟨args'⟩).foldl (fun tmps (t,a)=>tmps.setIfInBounds t a) L.tmps) L.assign L.body) ?_ ?_
   ·have sR:(Instr.getLoop l').run P w = .ok L w:=by simp[Instr.getLoop,getObj,Sem.run,h1]
    have hsz:(⟨args'⟩:Array Value).size=L.params.size:=by
     show args'.length=_
     rw[←g2,←h5];simp
    simp only[Instr.yield,Sem.run_bind,sR,Result.andThen_ok,hsz,ne_eq,not_true_eq_false,if_false]
    rfl
   ·rw[h6,h7]
    refine .round _ _ _ _ _ _ _ hl ⟨?_,?_⟩ rfl
    ·have:=g1.size
     rw[this]
     rw[←Array.foldl_toList,Array.toList_zip,h5]
    ·intro i
     have:=g1.get i
     rw[←Array.foldl_toList,Array.toList_zip,h5]
     exact this
  ·exact ak.fail
 ·exact ak.fail
theorem ql {fn fn':Fn} {captured captured' args args':List Value} (hf:q_ Γ fn fn') (hc:aH Γ captured captured') (ha:aH Γ args args'):
  fK P Γ (fI P fn captured args) (invoke (.fn fn' ⟨captured'⟩) ⟨args'⟩) ux:=by
 cases hf with
 |yield l l' hl=>exact A3 hl ha captured
 |plain _ hp=>
  intro W h n w hS
  cases fn with
  |yield l=>exact absurd rfl (hp l)
  |func f=>
   have:((⟨args'⟩:Array Value)++⟨captured'⟩)=⟨args'++captured'⟩:=by apply Array.ext';simp
   have e2:invoke (.fn (.func f) ⟨captured'⟩) ⟨args'⟩=callFunc f ⟨args'++captured'⟩:=by rw[←this];rfl
   rw[e2]
   exact jx (ha.append hc) W h n w hS
  |method name=>
   unfold fI
   cases ha with
   |nil=>exact ak.fail
   |cons r r' l l' hr hl=>
    have hex:(⟨r'::l'⟩:Array Value).extract 1 (⟨r'::l'⟩:Array Value).size=⟨l'⟩:=by apply Array.ext';simp
    have e2:invoke (.fn (.method name) ⟨captured'⟩) ⟨r'::l'⟩=callMethod r' name ⟨l'⟩:=by rw[←hex];rfl
    rw[e2]
    exact fM hr hl W h n w hS
  |methodOf t name=>
   unfold fI
   cases ha with
   |nil=>exact ak.fail
   |cons r r' l l' hr hl=>
    have hex:(⟨r'::l'⟩:Array Value).extract 1 (⟨r'::l'⟩:Array Value).size=⟨l'⟩:=by apply Array.ext';simp
    have e2:invoke (.fn (.methodOf t name) ⟨captured'⟩) ⟨r'::l'⟩=(do
      let recv:=match ←underlying t with
       | .interface _=>r'
       | _ => .iface t r'
      callMethod recv name ⟨l'⟩):=by rw[←hex];rfl
    rw[e2]
    dsimp only
    split
    ·rename_i ms hd
     refine ak.congr (w':=w) (e':=callMethod r' name ⟨l'⟩) ?_ (fM hr hl W h n w hS)
     simp only[Sem.run_bind,aD hd,Result.andThen_ok]
    ·rename_i d hn hd
     refine ak.congr (w':=w) (e':=callMethod (.iface t r') name ⟨l'⟩) ?_ (fM (.iface _ _ _ hr) hl W h n w hS)
     simp only[Sem.run_bind,aD hd,Result.andThen_ok]
    ·exact ak.fail
  |via t path f ptr=>
   unfold fI
   cases ha with
   |nil=>exact ak.fail
   |cons r r' l l' hr hl=>
    have hex:(⟨r'::l'⟩:Array Value).extract 1 (⟨r'::l'⟩:Array Value).size=⟨l'⟩:=by apply Array.ext';simp
    have e2:invoke (.fn (.via t path f ptr) ⟨captured'⟩) ⟨r'::l'⟩=(do
      let x ←receiverVia t r' path ptr
      callFunc f (#[x]++⟨l'⟩)):=by rw[←hex];rfl
    rw[e2]
    dsimp only
    refine ak.congr (w':=w) (e':=do
      let (xt,y) ←follow path.toList t (.val r')
      let x ←receiverAt xt y ptr none
      callFunc f (#[x]++⟨l'⟩)) ?_ ?_
    ·simp only[receiverVia,Sem.run_bind]
     cases (follow path.toList t (.val r')).run P w<;>rfl
    ·refine ak.bind (gY path.toList Γ t _ _ (.val _ _ hr) W h n w hS) fun aS p q hle hpq=>?_
     obtain⟨xt,x⟩:=p
     obtain⟨WM,y⟩:=q
     obtain⟨he,hx⟩:=hpq
     obtain rfl:xt=WM:=he
     intro W h n w hS
     refine ak.bind (nq hx W h n w hS) fun KH u u' hle' hu=>?_
     have oD:(#[u']++(⟨l'⟩:Array Value))=⟨u'::l'⟩:=by apply Array.ext';simp
     rw[oD]
     exact jx (.cons _ _ _ _ hu ((hl.mono hle).mono hle'))
theorem uy {b:Builtin} {ts:Array TypeId} {ty:TypeId} {cs:Array Bool} {args args':List Value} (ha:aH Γ args args'):
  fK P Γ ((lB P b ts.toList args).bind fun v => .pure (.value v)) (builtin b ts ty cs ⟨args'⟩) ux:=by
 have key:∀ {m:AP Value} {e:Sem Value},fK P Γ m e aF→fK P Γ (m.bind fun v => .pure (.value v)) (do pure (.value (←e)):Sem Next) ux:=by
  intro m e hm W h n w hS
  refine ak.bind (hm W h n w hS) fun aS v v' hle hv=>?_
  exact fun W h n w hS=>ak.ok hS rfl (.value _ _ hv)
 have iC:∀ {why:String} {e:Sem Next},fK P Γ ((AP.fail why:AP Value).bind fun v => .pure (.value v)) e ux:=fun W h n w hS=>ak.fail
 cases b with
 |append=>exact key (vI ha)
 |len=>exact key (De ha)
 |cap=>exact key (Dg ha)
 |copy=>exact key (AO ha)
 |delete=>exact key (vK ha)
 |clear=>exact key (yw ha)
 |min=>
  unfold lB
  cases ha with
  |nil=>exact iC
  |cons x x' r r' hx hr=>
   dsimp only
   refine key fun W h n w hS=>?_
   unfold AP.opt
   split
   ·rename_i v hv
    obtain⟨v',hrun,gX⟩:=nI (P:=P) false r r' x x' v hx hr hv
    exact ak.ok hS (hrun w) gX
   ·exact ak.fail
 |max=>
  unfold lB
  cases ha with
  |nil=>exact iC
  |cons x x' r r' hx hr=>
   dsimp only
   refine key fun W h n w hS=>?_
   unfold AP.opt
   split
   ·rename_i v hv
    obtain⟨v',hrun,gX⟩:=nI (P:=P) true r r' x x' v hx hr hv
    exact ak.ok hS (hrun w) gX
   ·exact ak.fail
 | _=>exact iC
theorem A4 {ρ ρ':Operand→Value} {c:Call} {ty:TypeId} (hρ:∀ x∈c.operands,aF Γ (ρ x) (ρ' x)):fK P Γ (zO P ρ c) (do let d ←resolve ρ' c ty;invoke d.target d.args) ux:=by
 intro W h n w hS
 have hargs:aH Γ (c.args.toList.map ρ) (c.args.toList.map ρ'):=aH.map _ fun x hx=>hρ x (by simp[Call.operands];exact .inr (by simpa using hx))
 have hae:c.args.map ρ'=⟨c.args.toList.map ρ'⟩:=by apply Array.ext';simp
 unfold zO
 split
 ·rename_i b hc
  refine ak.congr (w':=w) (e':=builtin b c.argTypes ty (c.args.map fun | .const _=>true | _=>false) ⟨c.args.toList.map ρ'⟩) ?_ (uy hargs W h n w hS)
  simp only[resolve,hc,hae,Sem.run_bind,Sem.run_pure,Result.andThen_ok,invoke]
  rfl
 ·rename_i recv name hc
  have hr:aF Γ (ρ recv) (ρ' recv):=hρ recv (by simp[Call.operands,hc])
  refine ak.congr (w':=w) (e':=callMethod (ρ' recv) name ⟨c.args.toList.map ρ'⟩) ?_ (fM hr hargs W h n w hS)
  have hex:(#[ρ' recv]++c.args.map ρ').extract 1 (#[ρ' recv]++c.args.map ρ').size=⟨c.args.toList.map ρ'⟩:=by apply Array.ext';simp;exact List.take_of_length_le (by simp)
  have h0:(#[ρ' recv]++c.args.map ρ')[0]? = some (ρ' recv):=by rw[Array.getElem?_append_left (by simp)];rfl
  simp only[resolve,hc,Sem.run_bind,Sem.run_pure,Result.andThen_ok,invoke,h0,hex]
 ·rename_i f hc
  have hf:aF Γ (ρ f) (ρ' f):=hρ f (by simp[Call.operands,hc])
  split
  ·rename_i fn first captured heq
   rw[heq] at hf
   generalize hv:ρ' f=fv at hf
   cases hf with
   |func _ fn' l1 Px l2 Py h1 h2 hp=>
    have WN:((⟨Px⟩:Array Value)++c.args.map ρ')=⟨Px++c.args.toList.map ρ'⟩:=by apply Array.ext';simp
    refine ak.congr (w':=w) (e':=invoke (.fn fn' ⟨Py⟩) ⟨Px++c.args.toList.map ρ'⟩) ?_ (ql hp h2 (h1.append hargs) W h n w hS)
    simp only[resolve,hc,hv,Deferred.ofValue,Sem.run_bind,Sem.run_pure,Result.andThen_ok,WN]
  ·exact ak.fail
end
end Go.Am
