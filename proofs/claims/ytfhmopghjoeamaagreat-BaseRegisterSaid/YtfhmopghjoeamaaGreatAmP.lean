/-
  The abstract machine: receivers and methods; the call's target; the operation whole.
-/
import Derived.Test.YtfhmopghjoeamaaGreatAmO
set_option linter.unusedSimpArgs false
set_option linter.unusedVariables false
namespace Go.Am
open Go.RowKit
section
variable {P:Program} {Γ:aV} {W w:World} {h:PT aj} {n:Nat}
inductive rJ (Γ:aV):Value ⊕ Addr→Place→Prop
 |val (v v':Value) (h:ay Γ v v'):rJ Γ (.inl v) (.val v')
 |var (a a':Addr) (h:Γ.addr a a'):rJ Γ (.inr a) (.var a')
def TP (Γ:aV) (x:TypeId×(Value ⊕ Addr)) (y:TypeId×Place):Prop:=x.1=y.1∧rJ Γ x.2 y.2
theorem oo {t:TypeId} {a a':Addr} (ha:Γ.addr a a'):dZ P Γ (eu P t (.pointer (some a))) (loadVar t a') ay:=by
 intro W h n w hS
 refine ah.congr (w':=w) (e':=Instr.loadAt t (.pointer (some a'))) ?_ (rE (.ptr _ _ ha) W h n w hS)
 simp[Instr.loadAt,Instr.sureAddr]
theorem iN {t:TypeId} {x:Value ⊕ Addr} {y:Place} (hx:rJ Γ x y):dZ P Γ (iI P t x) (y.get t) ay:=by
 cases hx with
 |val v v' hv=>exact fun W h n w hS=>ah.ok hS rfl hv
 |var a a' ha=>exact oo ha
theorem jS {a:Addr} {f:Field} {i:TypeInfo} (hi:P.info? f.type=some i) (hz:i.size≠0) (w:World):(fieldPlace a f).run P w = .ok (a.add f.offset) w:=by
 simp[fieldPlace,bn hi,hz]
theorem ah.run_bind {α β γ:Type} {m:AP α} {e:Sem γ} {g:γ→Sem β} {c:γ} {R:aV→α→β→Prop} (he:e.run P w = .ok c w) (hk:ah P Γ W h n w m (g c) R):ah P Γ W h n w m (e >>= g) R:=
 ah.congr (w':=w) (by rw[Sem.run_bind,he];rfl) hk
theorem fH:∀ (path:List FieldStep) (Γ:aV) (t:TypeId) (x:Value ⊕ Addr) (y:Place),rJ Γ x y→dZ P Γ (jc P path t x) (follow path t y) TP
 | [],Γ,t,x,y,hx=>fun W h n w hS=>ah.ok hS rfl ⟨rfl,hx⟩
 |s::rest,Γ,t,x,y,hx=>by
  intro W h n w hS
  unfold jc
  split
  ·rename_i fs hd
   split
   ·rename_i f hf
    have hf':fs[s.index]? = some f:=by simpa using hf
    split
    ·rename_i i hi
     cases hz:Nat.beq i.size 0 with
     |true=>exact ah.fail
     |false=>
      have hz:i.size≠0:=fun e=>by rw[e] at hz;exact Bool.noConfusion hz
      simp only[cond_false]
      cases hde:s.deref with
      |true=>
       simp only[cond_true]
       have hrun:(follow (s::rest) t y).run P w=(do
         let v ←y.get t
         let a ←asAddr v
         follow rest f.type (.var (←fieldPlace a f)):Sem (TypeId×Place)).run P w:=by
        simp only[follow,Sem.run_bind,az hd,Result.andThen_ok,hf',hde,if_true]
       refine ah.congr hrun ?_
       refine ah.bind (iN hx W h n w hS) fun aI v v' hle hv=>?_
       intro W h n w hS
       split
       ·rename_i a
        cases hv with
        |ptr _ a' ha=>
         refine ah.run_bind (c:=a') rfl ?_
         refine ah.run_bind (c:=a'.add f.offset) (jS hi hz w) ?_
         exact fH rest aI f.type _ _ (.var _ _ (ha.add _)) W h n w hS
       ·exact ah.fail
      |false=>
       simp only[cond_false]
       split
       ·rename_i a
        cases hx with
        |var _ a' ha=>
         have hrun:(follow (s::rest) t (.var a')).run P w=(follow rest f.type (.var (a'.add f.offset))).run P w:=by
          simp[follow,az hd,hf',hde,jS hi hz]
         exact ah.congr hrun (fH rest Γ f.type _ _ (.var _ _ (ha.add _)) W h n w hS)
       ·rename_i cs
        cases hx with
        |val _ _ hv=>
         cases hv with
         |agg l l' hl=>
          split
          ·rename_i v hv
           obtain⟨v',hr,hrel⟩:=dV hl hv
           have hrun:(follow (s::rest) t (.val (.agg ⟨l'⟩))).run P w=(follow rest f.type (.val v')).run P w:=by
            simp[follow,az hd,hf',hde,hr]
           exact ah.congr hrun (fH rest Γ f.type _ _ (.val _ _ hrel) W h n w hS)
          ·exact ah.fail
       ·exact ah.fail
    ·exact ah.fail
   ·exact ah.fail
  ·exact ah.fail
theorem uL (xt:TypeId) (a:Addr) (s m:String) (w:World):(Builtin.ssaWrapNilChk_ #[xt] xt #[.pointer (some a),strVal s,strVal m]).run P w = .ok (.pointer (some a)) w:=rfl
theorem lf {xt:TypeId} {x:Value ⊕ Addr} {y:Place} {ptr:Bool} {wr:Option String} (hx:rJ Γ x y):dZ P Γ (kE P xt x ptr) (receiverAt xt y ptr wr) ay:=by
 intro W h n w hS
 unfold kE
 split
 ·rename_i e hd
  refine ah.congr (w':=w) (e':=y.get xt) ?_ (iN hx W h n w hS)
  simp only[receiverAt,Sem.run_bind,az hd,Result.andThen_ok]
 ·rename_i e hd
  refine ah.congr (w':=w) (e':=do
   let p ←y.get xt
   let p ←match wr with
    |some name=>Builtin.ssaWrapNilChk_ #[xt] xt #[p,strVal "",strVal name]
    |none=>pure p
   loadVar e (←asAddr p)) ?_ ?_
  ·simp only[receiverAt,Sem.run_bind,az hd,Result.andThen_ok]
   cases wr<;>rfl
  ·refine ah.bind (iN hx W h n w hS) fun aI v v' hle hv=>?_
   intro W h n w hS
   split
   ·rename_i a
    cases hv with
    |ptr _ a' ha=>
     refine ah.congr (w':=w) (e':=loadVar e a') ?_ (oo ha W h n w hS)
     cases wr with
     |none=>simp[asAddr]
     |some s=>simp only[Sem.run_bind,uL,Result.andThen_ok,asAddr,Sem.run_pure]
   ·exact ah.fail
 ·rename_i d a hn1 hd
  cases hx with
  |var _ a' ha=>
   refine ah.ok hS (b := .pointer (some a')) ?_ (.ptr _ _ ha)
   simp only[receiverAt,Sem.run_bind,az hd,Result.andThen_ok]
   cases d<;>first |rfl |exact(hn1 _ rfl).elim
 ·rename_i _ d hn2 hd
  refine ah.congr (w':=w) (e':=y.get xt) ?_ (iN hx W h n w hS)
  simp only[receiverAt,Sem.run_bind,az hd,Result.andThen_ok]
 ·exact ah.fail
def MA (Γ:aV) (x:FuncId×Value) (y:FuncId×Value):Prop:=x.1=y.1∧ay Γ x.2 y.2
theorem oq:∀ (d D:Nat) (_:d≤D) (Γ:aV) (t:TypeId) (v v':Value) (name:String),ay Γ v v'→dZ P Γ (oW P d t v name) (method D t v' name) MA
 |0,D,_,Γ,t,v,v',name,hv=>fun W h n w hS=>ah.fail
 |d+1,0,hD,Γ,t,v,v',name,hv=>absurd hD (by omega)
 |d+1,D+1,hD,Γ,t,v,v',name,hv=>by
  intro W h n w hS
  unfold oW
  split
  ·rename_i i hi
   split
   ·rename_i m hm
    have hm':i.methods.find? (fun m=>m.name==name)=some m:=by rw[←Array.find?_toList];exact hm
    refine ah.congr (w':=w) (e':=do
     let (xt,x) ←follow m.path.toList t (.val v')
     match m.func with
     |none=>
      match ←x.get xt with
      | .iface t' v'=>method D t' v' name
      | .nilIface=>runtimePanic .nilDeref
      | _=>stuck "method row: interface value expected"
     |some (f,pointerReceiver)=>
      pure (f,←receiverAt xt x pointerReceiver (if m.path.isEmpty then some ((name.splitOn ".").getLastD name) else none))) ?_ ?_
    ·simp only[method,Sem.run_bind,cF hi,Result.andThen_ok,hm']
     rfl
    ·refine ah.bind (fH m.path.toList Γ t _ _ (.val _ _ hv) W h n w hS) fun aI p q hle hpq=>?_
     obtain⟨xt,x⟩:=p
     obtain⟨TQ,y⟩:=q
     obtain⟨he,hx⟩:=hpq
     obtain rfl:xt=TQ:=he
     intro W h n w hS
     dsimp only
     cases hmf:m.func with
     |some fp=>
      obtain⟨f,ptr⟩:=fp
      dsimp only
      refine ah.bind (lf hx W h n w hS) fun Iz r r' hle' hr=>?_
      exact fun W h n w hS=>ah.ok hS rfl ⟨rfl,hr⟩
     |none=>
      dsimp only
      refine ah.bind (iN hx W h n w hS) fun Iz r r' hle' hr=>?_
      intro W h n w hS
      split
      ·rename_i t' u
       cases hr with
       |iface _ _ u' hu=>exact oq d D (by omega) Iz t' u u' name hu W h n w hS
      ·exact ah.fail
   ·exact ah.fail
  ·exact ah.fail
inductive sY (Γ:aV):aE→Next→Prop
 |value (v v':Value) (h:ay Γ v v'):sY Γ (.value v) (.value v')
 |skip:sY Γ .skip .skip
 |enter (f:FuncId) (args args':List Value) (h:aD Γ args args'):sY Γ (.enter f args) (.enter f ⟨args'⟩)
 |round (l l':Nat) (m:Tm) (fn:FuncId) (tmps:Array Value) (as bd:Code) (h:Γ.blk l=some (l',0)) (ht:dU Γ m tmps) (hd:m.fO=[]):sY Γ (.round l m as bd) (.round l' fn tmps as bd)
theorem iB {f:FuncId} {args args':List Value} (ha:aD Γ args args'):dZ P Γ (ak P f args) (callFunc f ⟨args'⟩) sY:=by
 intro W h n w hS
 unfold ak
 split
 ·rename_i fn hf
  cases uI:(fn.name == "runtime.NumGoroutine") with
  |true=>exact ah.fail
  |false=>
   simp only[cond_false]
   cases hb:fn.body.isSome with
   |true=>
    refine ah.ok hS (b := .enter f ⟨args'⟩) ?_ (.enter _ _ _ ha)
    have hb':fn.body.isNone=false:=by cases wm:fn.body with |none=>rw[wm] at hb;simp at hb |some c=>rfl
    unfold callFunc
    simp only[Sem.run_bind,run_program,Result.andThen_ok,hf,uI,Bool.false_eq_true,if_false,hb',Sem.run_pure]
   |false=>
    simp only[cond_false]
    split
    ·rename_i k hk
     unfold uu at hk
     have hk':=List.find?_some hk
     simp only[Bool.and_eq_true,Bool.or_eq_true,beq_iff_eq] at hk'
     refine ah.congr (w':=w) (e':=do let v ←dh k ⟨args'⟩;pure (.value v)) ?_ ?_
     ·rw[xh hf hb hk'.1 hk'.2,Sem.run_bind]
      rfl
     ·refine ah.bind (uJ k ha W h n w hS) fun aI v v' hle hv=>?_
      exact fun W h n w hS=>ah.ok hS rfl (.value _ _ hv)
    ·exact ah.fail
 ·exact ah.fail
theorem ec {recv recv':Value} {name:String} {args args':List Value} (hr:ay Γ recv recv') (ha:aD Γ args args'):dZ P Γ (dF P recv name args) (callMethod recv' name ⟨args'⟩) sY:=by
 intro W h n w hS
 unfold dF
 split
 ·rename_i t v
  cases hr with
  |iface _ _ v' hv=>
   refine ah.congr (w':=w) (e':=do
    let (f,r) ←method (P.types.size+Made.depth) t v' name
    callFunc f (#[r]++⟨args'⟩)) ?_ ?_
   ·simp only[callMethod,Sem.run_bind,run_program,Result.andThen_ok]
   ·refine ah.bind (oq 6 _ (by unfold Made.depth;omega) Γ t v v' name hv W h n w hS) fun aI p q hle hpq=>?_
    obtain⟨f,r⟩:=p
    obtain⟨f',r'⟩:=q
    obtain⟨he,hr⟩:=hpq
    obtain rfl:f=f':=he
    have mB:(#[r']++(⟨args'⟩:Array Value))=⟨r'::args'⟩:=by apply Array.ext';simp
    dsimp only
    rw[mB]
    exact iB (.cons _ _ _ _ hr (ha.mono hle))
 ·exact ah.fail
theorem dU.put {m m':Tm} {tmps:Array Value} {v v':Value} {i:Nat} (hm:dU Γ m tmps) (hv:ay Γ v v') (e:m.put (some i) v=some m'):dU Γ m' (tmps.setIfInBounds i v')∧m'.fO=m.fO:=by
 unfold Tm.put at e
 cases hlt:Nat.blt i m.n with
 |false=>simp[hlt] at e
 |true=>
  have hlt:i<m.n:=Nat.blt_eq.mp hlt
  simp only[Nat.blt_eq.mpr hlt,cond_true,Option.some.injEq] at e
  subst e
  refine⟨⟨by simp[hm.size],fun j=>?_⟩,rfl⟩
  by_cases hj:j=i
  ·subst hj
   have:j<tmps.size:=by rw[←hm.size];exact hlt
   simp only[PT.eH,Array.getD_eq_getD_getElem?]
   rw[Array.getElem?_setIfInBounds_self_of_lt this]
   exact hv
  ·have:=hm.get j
   simp only[PT.bJ _ _ (Ne.symm hj),Array.getD_eq_getD_getElem?] at this ⊢
   rw[Array.getElem?_setIfInBounds_ne (Ne.symm hj)]
   exact this
theorem ot:∀ (ps:List Tmp) (args args':List Value) (m m':Tm) (tmps:Array Value),aD Γ args args'→dU Γ m tmps→dW ps args m=some m'→
  dU Γ m' ((ps.zip args').foldl (fun (t:Array Value) (p:Tmp×Value)=>t.setIfInBounds p.1 p.2) tmps)∧ps.length=args'.length
 | [],args,args',m,m',tmps,ha,hm,e=>by
  cases ha with
  |nil=>
   simp only[dW,Option.some.injEq] at e
   subst e
   exact⟨hm,rfl⟩
  |cons=>simp[dW] at e
 |d::ds,args,args',m,m',tmps,ha,hm,e=>by
  cases ha with
  |nil=>simp[dW] at e
  |cons v v' l l' hv hl=>
   simp only[dW] at e
   split at e
   ·rename_i m1 hm1
    obtain⟨h1,h2⟩:=ot ds l l' m1 m' _ hl (hm.put hv hm1).1 e
    exact⟨by simpa using h1,by simp[h2]⟩
   ·simp at e
theorem zE {l l':Nat} {args args':List Value} (hl:Γ.blk l=some (l',0)) (ha:aD Γ args args') (captured:List Value):dZ P Γ (f_ P (.yield l) captured args) (Instr.yield l' ⟨args'⟩) sY:=by
 intro W h n w hS
 unfold f_
 refine ah.get fun B hB=>?_
 split
 ·rename_i st fD tm ps as bd
  obtain⟨b,s,e,⟨rfl,L,h1,h2,h3,h4,h5,h6,h7⟩,_⟩:=hS.live _ _ hB
  rw[hl] at e
  obtain⟨rfl,_⟩:l'=b∧0=0:=by simpa using e
  split
  ·rename_i m hm
   obtain⟨g1,g2⟩:=ot ps args args' tm m L.tmps ha h4 hm
   refine ah.ok hS (b := .round l' L.fn ((L.params.zip ⟨args'⟩).foldl (fun tmps (t,a)=>tmps.setIfInBounds t a) L.tmps) L.assign L.body) ?_ ?_
   ·have sX:(Instr.getLoop l').run P w = .ok L w:=by simp[Instr.getLoop,getObj,Sem.run,h1]
    have hsz:(⟨args'⟩:Array Value).size=L.params.size:=by
     show args'.length=_
     rw[←g2,←h5];simp
    simp only[Instr.yield,Sem.run_bind,sX,Result.andThen_ok,hsz,ne_eq,not_true_eq_false,if_false]
    rfl
   ·rw[h6,h7]
    refine .round _ _ _ _ _ _ _ hl ⟨?_,?_⟩ rfl
    ·have:=g1.size
     rw[this]
     rw[←Array.foldl_toList,Array.toList_zip,h5]
    ·intro i
     have:=g1.get i
     rw[←Array.foldl_toList,Array.toList_zip,h5]
     exact this
  ·exact ah.fail
 ·exact ah.fail
theorem ou {fn fn':Fn} {captured captured' args args':List Value} (hf:pN Γ fn fn') (hc:aD Γ captured captured') (ha:aD Γ args args'):
  dZ P Γ (f_ P fn captured args) (invoke (.fn fn' ⟨captured'⟩) ⟨args'⟩) sY:=by
 cases hf with
 |yield l l' hl=>exact zE hl ha captured
 |plain _ hp=>
  intro W h n w hS
  cases fn with
  |yield l=>exact absurd rfl (hp l)
  |func f=>
   have:((⟨args'⟩:Array Value)++⟨captured'⟩)=⟨args'++captured'⟩:=by apply Array.ext';simp
   have e2:invoke (.fn (.func f) ⟨captured'⟩) ⟨args'⟩=callFunc f ⟨args'++captured'⟩:=by rw[←this];rfl
   rw[e2]
   exact iB (ha.append hc) W h n w hS
  |method name=>
   unfold f_
   cases ha with
   |nil=>exact ah.fail
   |cons r r' l l' hr hl=>
    have hex:(⟨r'::l'⟩:Array Value).extract 1 (⟨r'::l'⟩:Array Value).size=⟨l'⟩:=by apply Array.ext';simp
    have e2:invoke (.fn (.method name) ⟨captured'⟩) ⟨r'::l'⟩=callMethod r' name ⟨l'⟩:=by rw[←hex];rfl
    rw[e2]
    exact ec hr hl W h n w hS
  |methodOf t name=>
   unfold f_
   cases ha with
   |nil=>exact ah.fail
   |cons r r' l l' hr hl=>
    have hex:(⟨r'::l'⟩:Array Value).extract 1 (⟨r'::l'⟩:Array Value).size=⟨l'⟩:=by apply Array.ext';simp
    have e2:invoke (.fn (.methodOf t name) ⟨captured'⟩) ⟨r'::l'⟩=(do
      let recv:=match ←underlying t with
       | .interface _=>r'
       | _ => .iface t r'
      callMethod recv name ⟨l'⟩):=by rw[←hex];rfl
    rw[e2]
    dsimp only
    split
    ·rename_i ms hd
     refine ah.congr (w':=w) (e':=callMethod r' name ⟨l'⟩) ?_ (ec hr hl W h n w hS)
     simp only[Sem.run_bind,az hd,Result.andThen_ok]
    ·rename_i d hn hd
     refine ah.congr (w':=w) (e':=callMethod (.iface t r') name ⟨l'⟩) ?_ (ec (.iface _ _ _ hr) hl W h n w hS)
     simp only[Sem.run_bind,az hd,Result.andThen_ok]
    ·exact ah.fail
  |via t path f ptr=>
   unfold f_
   cases ha with
   |nil=>exact ah.fail
   |cons r r' l l' hr hl=>
    have hex:(⟨r'::l'⟩:Array Value).extract 1 (⟨r'::l'⟩:Array Value).size=⟨l'⟩:=by apply Array.ext';simp
    have e2:invoke (.fn (.via t path f ptr) ⟨captured'⟩) ⟨r'::l'⟩=(do
      let x ←receiverVia t r' path ptr
      callFunc f (#[x]++⟨l'⟩)):=by rw[←hex];rfl
    rw[e2]
    dsimp only
    refine ah.congr (w':=w) (e':=do
      let (xt,y) ←follow path.toList t (.val r')
      let x ←receiverAt xt y ptr none
      callFunc f (#[x]++⟨l'⟩)) ?_ ?_
    ·simp only[receiverVia,Sem.run_bind]
     cases (follow path.toList t (.val r')).run P w<;>rfl
    ·refine ah.bind (fH path.toList Γ t _ _ (.val _ _ hr) W h n w hS) fun aI p q hle hpq=>?_
     obtain⟨xt,x⟩:=p
     obtain⟨TQ,y⟩:=q
     obtain⟨he,hx⟩:=hpq
     obtain rfl:xt=TQ:=he
     intro W h n w hS
     refine ah.bind (lf hx W h n w hS) fun Iz u u' hle' hu=>?_
     have mB:(#[u']++(⟨l'⟩:Array Value))=⟨u'::l'⟩:=by apply Array.ext';simp
     rw[mB]
     exact iB (.cons _ _ _ _ hu ((hl.mono hle).mono hle'))
theorem sZ {b:Builtin} {ts:Array TypeId} {ty:TypeId} {cs:Array Bool} {args args':List Value} (ha:aD Γ args args'):
  dZ P Γ ((jK P b ts.toList args).bind fun v => .pure (.value v)) (builtin b ts ty cs ⟨args'⟩) sY:=by
 have key:∀ {m:AP Value} {e:Sem Value},dZ P Γ m e ay→dZ P Γ (m.bind fun v => .pure (.value v)) (do pure (.value (←e)):Sem Next) sY:=by
  intro m e hm W h n w hS
  refine ah.bind (hm W h n w hS) fun aI v v' hle hv=>?_
  exact fun W h n w hS=>ah.ok hS rfl (.value _ _ hv)
 have fR:∀ {why:String} {e:Sem Next},dZ P Γ ((AP.fail why:AP Value).bind fun v => .pure (.value v)) e sY:=fun W h n w hS=>ah.fail
 cases b with
 |append=>exact key (uC ha)
 |len=>exact key (Bo ha)
 |cap=>exact key (Bp ha)
 |copy=>exact key (zv ha)
 |delete=>exact key (uE ha)
 |clear=>exact key (xj ha)
 |min=>
  unfold jK
  cases ha with
  |nil=>exact fR
  |cons x x' r r' hx hr=>
   dsimp only
   refine key fun W h n w hS=>?_
   unfold AP.opt
   split
   ·rename_i v hv
    obtain⟨v',hrun,hrel⟩:=lE (P:=P) false r r' x x' v hx hr hv
    exact ah.ok hS (hrun w) hrel
   ·exact ah.fail
 |max=>
  unfold jK
  cases ha with
  |nil=>exact fR
  |cons x x' r r' hx hr=>
   dsimp only
   refine key fun W h n w hS=>?_
   unfold AP.opt
   split
   ·rename_i v hv
    obtain⟨v',hrun,hrel⟩:=lE (P:=P) true r r' x x' v hx hr hv
    exact ah.ok hS (hrun w) hrel
   ·exact ah.fail
 | _=>exact fR
theorem zF {ρ ρ':Operand→Value} {c:Call} {ty:TypeId} (hρ:∀ x∈c.operands,ay Γ (ρ x) (ρ' x)):dZ P Γ (yC P ρ c) (do let d ←resolve ρ' c ty;invoke d.target d.args) sY:=by
 intro W h n w hS
 have hargs:aD Γ (c.args.toList.map ρ) (c.args.toList.map ρ'):=aD.map _ fun x hx=>hρ x (by simp[Call.operands];exact .inr (by simpa using hx))
 have XO:c.args.map ρ'=⟨c.args.toList.map ρ'⟩:=by apply Array.ext';simp
 unfold yC
 split
 ·rename_i b hc
  refine ah.congr (w':=w) (e':=builtin b c.argTypes ty (c.args.map fun | .const _=>true | _=>false) ⟨c.args.toList.map ρ'⟩) ?_ (sZ hargs W h n w hS)
  simp only[resolve,hc,XO,Sem.run_bind,Sem.run_pure,Result.andThen_ok,invoke]
  rfl
 ·rename_i recv name hc
  have hr:ay Γ (ρ recv) (ρ' recv):=hρ recv (by simp[Call.operands,hc])
  refine ah.congr (w':=w) (e':=callMethod (ρ' recv) name ⟨c.args.toList.map ρ'⟩) ?_ (ec hr hargs W h n w hS)
  have hex:(#[ρ' recv]++c.args.map ρ').extract 1 (#[ρ' recv]++c.args.map ρ').size=⟨c.args.toList.map ρ'⟩:=by apply Array.ext';simp;exact List.take_of_length_le (by simp)
  have h0:(#[ρ' recv]++c.args.map ρ')[0]? = some (ρ' recv):=by rw[Array.getElem?_append_left (by simp)];rfl
  simp only[resolve,hc,Sem.run_bind,Sem.run_pure,Result.andThen_ok,invoke,h0,hex]
 ·rename_i f hc
  have hf:ay Γ (ρ f) (ρ' f):=hρ f (by simp[Call.operands,hc])
  split
  ·rename_i fn first captured heq
   rw[heq] at hf
   generalize hv:ρ' f=fv at hf
   cases hf with
   |func _ fn' l1 MB l2 MC h1 h2 hp=>
    have TR:((⟨MB⟩:Array Value)++c.args.map ρ')=⟨MB++c.args.toList.map ρ'⟩:=by apply Array.ext';simp
    refine ah.congr (w':=w) (e':=invoke (.fn fn' ⟨MC⟩) ⟨MB++c.args.toList.map ρ'⟩) ?_ (ou hp h2 (h1.append hargs) W h n w hS)
    simp only[resolve,hc,hv,Deferred.ofValue,Sem.run_bind,Sem.run_pure,Result.andThen_ok,TR]
  ·exact ah.fail
end
end Go.Am
