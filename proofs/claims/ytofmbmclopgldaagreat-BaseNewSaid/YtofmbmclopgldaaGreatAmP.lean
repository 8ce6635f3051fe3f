/-
  The abstract machine: receivers and methods; the call's target; the operation whole.
-/
import Derived.Test.YtofmbmclopgldaaGreatAmO
set_option linter.unusedSimpArgs false
set_option linter.unusedVariables false
namespace Go.Am
open Go.RowKit
section
variable {P:Program} {Γ:br} {W w:World} {h:PT ak} {n:Nat}
inductive uG (Γ:br):Value ⊕ Addr→Place→Prop
 |val (v v':Value) (h:aA Γ v v'):uG Γ (.inl v) (.val v')
 |var (a a':Addr) (h:Γ.addr a a'):uG Γ (.inr a) (.var a')
def aaF (Γ:br) (x:TypeId×(Value ⊕ Addr)) (y:TypeId×Place):Prop:=x.1=y.1∧uG Γ x.2 y.2
theorem qq {t:TypeId} {a a':Addr} (ha:Γ.addr a a'):fD P Γ (dX P t (.pointer (some a))) (loadVar t a') aA:=by
 intro W h n w hS
 refine aj.congr (w':=w) (e':=Instr.loadAt t (.pointer (some a'))) ?_ (uB (.ptr _ _ ha) W h n w hS)
 simp[Instr.loadAt,Instr.sureAddr]
theorem jP {t:TypeId} {x:Value ⊕ Addr} {y:Place} (hx:uG Γ x y):fD P Γ (jL P t x) (y.get t) aA:=by
 cases hx with
 |val v v' hv=>exact fun W h n w hS=>aj.ok hS rfl hv
 |var a a' ha=>exact qq ha
theorem lJ {a:Addr} {f:Field} {i:TypeInfo} (hi:P.info? f.type=some i) (hz:i.size≠0) (w:World):(fieldPlace a f).run P w = .ok (a.add f.offset) w:=by
 simp[fieldPlace,bz hi,hz]
theorem aj.run_bind {α β γ:Type} {m:AP α} {e:Sem γ} {g:γ→Sem β} {c:γ} {R:br→α→β→Prop} (he:e.run P w = .ok c w) (hk:aj P Γ W h n w m (g c) R):aj P Γ W h n w m (e >>= g) R:=
 aj.congr (w':=w) (by rw[Sem.run_bind,he];rfl) hk
theorem h_:∀ (path:List FieldStep) (Γ:br) (t:TypeId) (x:Value ⊕ Addr) (y:Place),uG Γ x y→fD P Γ (jZ P path t x) (follow path t y) aaF
 | [],Γ,t,x,y,hx=>fun W h n w hS=>aj.ok hS rfl ⟨rfl,hx⟩
 |s::rest,Γ,t,x,y,hx=>by
  intro W h n w hS
  unfold jZ
  split
  ·rename_i fs hd
   split
   ·rename_i f hf
    have hf':fs[s.index]? = some f:=by simpa using hf
    split
    ·rename_i i hi
     cases hz:Nat.beq i.size 0 with
     |true=>exact aj.fail
     |false=>
      have hz:i.size≠0:=fun e=>by rw[e] at hz;exact Bool.noConfusion hz
      simp only[cond_false]
      cases hde:s.deref with
      |true=>
       simp only[cond_true]
       have hrun:(follow (s::rest) t y).run P w=(do
         let v ←y.get t
         let a ←asAddr v
         follow rest f.type (.var (←fieldPlace a f)):Sem (TypeId×Place)).run P w:=by
        simp only[follow,Sem.run_bind,az hd,Result.andThen_ok,hf',hde,if_true]
       refine aj.congr hrun ?_
       refine aj.bind (jP hx W h n w hS) fun aS v v' hle hv=>?_
       intro W h n w hS
       split
       ·rename_i a
        cases hv with
        |ptr _ a' ha=>
         refine aj.run_bind (c:=a') rfl ?_
         refine aj.run_bind (c:=a'.add f.offset) (lJ hi hz w) ?_
         exact h_ rest aS f.type _ _ (.var _ _ (ha.add _)) W h n w hS
       ·exact aj.fail
      |false=>
       simp only[cond_false]
       split
       ·rename_i a
        cases hx with
        |var _ a' ha=>
         have hrun:(follow (s::rest) t (.var a')).run P w=(follow rest f.type (.var (a'.add f.offset))).run P w:=by
          simp[follow,az hd,hf',hde,lJ hi hz]
         exact aj.congr hrun (h_ rest Γ f.type _ _ (.var _ _ (ha.add _)) W h n w hS)
       ·rename_i cs
        cases hx with
        |val _ _ hv=>
         cases hv with
         |agg l l' hl=>
          split
          ·rename_i v hv
           obtain⟨v',hr,hrel⟩:=fq hl hv
           have hrun:(follow (s::rest) t (.val (.agg ⟨l'⟩))).run P w=(follow rest f.type (.val v')).run P w:=by
            simp[follow,az hd,hf',hde,hr]
           exact aj.congr hrun (h_ rest Γ f.type _ _ (.val _ _ hrel) W h n w hS)
          ·exact aj.fail
       ·exact aj.fail
    ·exact aj.fail
   ·exact aj.fail
  ·exact aj.fail
theorem xO (xt:TypeId) (a:Addr) (s m:String) (w:World):(Builtin.ssaWrapNilChk_ #[xt] xt #[.pointer (some a),strVal s,strVal m]).run P w = .ok (.pointer (some a)) w:=rfl
theorem nA {xt:TypeId} {x:Value ⊕ Addr} {y:Place} {ptr:Bool} {wr:Option String} (hx:uG Γ x y):fD P Γ (mH P xt x ptr) (receiverAt xt y ptr wr) aA:=by
 intro W h n w hS
 unfold mH
 split
 ·rename_i e hd
  refine aj.congr (w':=w) (e':=y.get xt) ?_ (jP hx W h n w hS)
  simp only[receiverAt,Sem.run_bind,az hd,Result.andThen_ok]
 ·rename_i e hd
  refine aj.congr (w':=w) (e':=do
   let p ←y.get xt
   let p ←match wr with
    |some name=>Builtin.ssaWrapNilChk_ #[xt] xt #[p,strVal "",strVal name]
    |none=>pure p
   loadVar e (←asAddr p)) ?_ ?_
  ·simp only[receiverAt,Sem.run_bind,az hd,Result.andThen_ok]
   cases wr<;>rfl
  ·refine aj.bind (jP hx W h n w hS) fun aS v v' hle hv=>?_
   intro W h n w hS
   split
   ·rename_i a
    cases hv with
    |ptr _ a' ha=>
     refine aj.congr (w':=w) (e':=loadVar e a') ?_ (qq ha W h n w hS)
     cases wr with
     |none=>simp[asAddr]
     |some s=>simp only[Sem.run_bind,xO,Result.andThen_ok,asAddr,Sem.run_pure]
   ·exact aj.fail
 ·rename_i d a hn1 hd
  cases hx with
  |var _ a' ha=>
   refine aj.ok hS (b := .pointer (some a')) ?_ (.ptr _ _ ha)
   simp only[receiverAt,Sem.run_bind,az hd,Result.andThen_ok]
   cases d<;>first |rfl |exact(hn1 _ rfl).elim
 ·rename_i _ d hn2 hd
  refine aj.congr (w':=w) (e':=y.get xt) ?_ (jP hx W h n w hS)
  simp only[receiverAt,Sem.run_bind,az hd,Result.andThen_ok]
 ·exact aj.fail
def Sg (Γ:br) (x:FuncId×Value) (y:FuncId×Value):Prop:=x.1=y.1∧aA Γ x.2 y.2
theorem qt:∀ (d D:Nat) (_:d≤D) (Γ:br) (t:TypeId) (v v':Value) (name:String),aA Γ v v'→fD P Γ (q_ P d t v name) (method D t v' name) Sg
 |0,D,_,Γ,t,v,v',name,hv=>fun W h n w hS=>aj.fail
 |d+1,0,hD,Γ,t,v,v',name,hv=>absurd hD (by omega)
 |d+1,D+1,hD,Γ,t,v,v',name,hv=>by
  intro W h n w hS
  unfold q_
  split
  ·rename_i i hi
   split
   ·rename_i m hm
    have hm':i.methods.find? (fun m=>m.name==name)=some m:=by rw[←Array.find?_toList];exact hm
    refine aj.congr (w':=w) (e':=do
     let (xt,x) ←follow m.path.toList t (.val v')
     match m.func with
     |none=>
      match ←x.get xt with
      | .iface t' v'=>method D t' v' name
      | .nilIface=>runtimePanic .nilDeref
      | _=>stuck "method row: interface value expected"
     |some (f,pointerReceiver)=>
      pure (f,←receiverAt xt x pointerReceiver (if m.path.isEmpty then some ((name.splitOn ".").getLastD name) else none))) ?_ ?_
    ·simp only[method,Sem.run_bind,dr hi,Result.andThen_ok,hm']
     rfl
    ·refine aj.bind (h_ m.path.toList Γ t _ _ (.val _ _ hv) W h n w hS) fun aS p q hle hpq=>?_
     obtain⟨xt,x⟩:=p
     obtain⟨xt',y⟩:=q
     obtain⟨he,hx⟩:=hpq
     obtain rfl:xt=xt':=he
     intro W h n w hS
     dsimp only
     cases hmf:m.func with
     |some fp=>
      obtain⟨f,ptr⟩:=fp
      dsimp only
      refine aj.bind (nA hx W h n w hS) fun Nd r r' hle' hr=>?_
      exact fun W h n w hS=>aj.ok hS rfl ⟨rfl,hr⟩
     |none=>
      dsimp only
      refine aj.bind (jP hx W h n w hS) fun Nd r r' hle' hr=>?_
      intro W h n w hS
      split
      ·rename_i t' u
       cases hr with
       |iface _ _ u' hu=>exact qt d D (by omega) Nd t' u u' name hu W h n w hS
      ·exact aj.fail
   ·exact aj.fail
  ·exact aj.fail
inductive vL (Γ:br):aD→Next→Prop
 |value (v v':Value) (h:aA Γ v v'):vL Γ (.value v) (.value v')
 |skip:vL Γ .skip .skip
 |enter (f:FuncId) (args args':List Value) (h:aF Γ args args'):vL Γ (.enter f args) (.enter f ⟨args'⟩)
 |round (l l':Nat) (m:Tm) (fn:FuncId) (tmps:Array Value) (as bd:Code) (h:Γ.blk l=some (l',0)) (ht:fm Γ m tmps) (hd:m.eS=[]):vL Γ (.round l m as bd) (.round l' fn tmps as bd)
theorem jD {f:FuncId} {args args':List Value} (ha:aF Γ args args'):fD P Γ (ah P f args) (callFunc f ⟨args'⟩) vL:=by
 intro W h n w hS
 unfold ah
 split
 ·rename_i fn hf
  cases sv:(fn.name == "runtime.NumGoroutine") with
  |true=>exact aj.fail
  |false=>
   simp only[cond_false]
   cases hb:fn.body.isSome with
   |true=>
    refine aj.ok hS (b := .enter f ⟨args'⟩) ?_ (.enter _ _ _ ha)
    have hb':fn.body.isNone=false:=by cases Ij:fn.body with |none=>rw[Ij] at hb;simp at hb |some c=>rfl
    unfold callFunc
    simp only[Sem.run_bind,run_program,Result.andThen_ok,hf,sv,Bool.false_eq_true,if_false,hb',Sem.run_pure]
   |false=>
    simp only[cond_false]
    split
    ·rename_i k hk
     unfold xu at hk
     have hk':=List.find?_some hk
     simp only[Bool.and_eq_true,Bool.or_eq_true,beq_iff_eq] at hk'
     refine aj.congr (w':=w) (e':=do let v ←dZ k ⟨args'⟩;pure (.value v)) ?_ ?_
     ·rw[Aj hf hb hk'.1 hk'.2,Sem.run_bind]
      rfl
     ·refine aj.bind (xL k ha W h n w hS) fun aS v v' hle hv=>?_
      exact fun W h n w hS=>aj.ok hS rfl (.value _ _ hv)
    ·exact aj.fail
 ·exact aj.fail
theorem fG {recv recv':Value} {name:String} {args args':List Value} (hr:aA Γ recv recv') (ha:aF Γ args args'):fD P Γ (cL P recv name args) (callMethod recv' name ⟨args'⟩) vL:=by
 intro W h n w hS
 unfold cL
 split
 ·rename_i t v
  cases hr with
  |iface _ _ v' hv=>
   refine aj.congr (w':=w) (e':=do
    let (f,r) ←method (P.types.size+Made.depth) t v' name
    callFunc f (#[r]++⟨args'⟩)) ?_ ?_
   ·simp only[callMethod,Sem.run_bind,run_program,Result.andThen_ok]
   ·refine aj.bind (qt 6 _ (by unfold Made.depth;omega) Γ t v v' name hv W h n w hS) fun aS p q hle hpq=>?_
    obtain⟨f,r⟩:=p
    obtain⟨f',r'⟩:=q
    obtain⟨he,hr⟩:=hpq
    obtain rfl:f=f':=he
    have oC:(#[r']++(⟨args'⟩:Array Value))=⟨r'::args'⟩:=by apply Array.ext';simp
    dsimp only
    rw[oC]
    exact jD (.cons _ _ _ _ hr (ha.mono hle))
 ·exact aj.fail
theorem fm.put {m m':Tm} {tmps:Array Value} {v v':Value} {i:Nat} (hm:fm Γ m tmps) (hv:aA Γ v v') (e:m.put (some i) v=some m'):fm Γ m' (tmps.setIfInBounds i v')∧m'.eS=m.eS:=by
 unfold Tm.put at e
 cases hlt:Nat.blt i m.n with
 |false=>simp[hlt] at e
 |true=>
  have hlt:i<m.n:=Nat.blt_eq.mp hlt
  simp only[Nat.blt_eq.mpr hlt,cond_true,Option.some.injEq] at e
  subst e
  refine⟨⟨by simp[hm.size],fun j=>?_⟩,rfl⟩
  by_cases hj:j=i
  ·subst hj
   have:j<tmps.size:=by rw[←hm.size];exact hlt
   simp only[PT.gl,Array.getD_eq_getD_getElem?]
   rw[Array.getElem?_setIfInBounds_self_of_lt this]
   exact hv
  ·have:=hm.get j
   simp only[PT.bO _ _ (Ne.symm hj),Array.getD_eq_getD_getElem?] at this ⊢
   rw[Array.getElem?_setIfInBounds_ne (Ne.symm hj)]
   exact this
theorem qu:∀ (ps:List Tmp) (args args':List Value) (m m':Tm) (tmps:Array Value),aF Γ args args'→fm Γ m tmps→fB ps args m=some m'→
  fm Γ m' ((ps.zip args').foldl (fun (t:Array Value) (p:Tmp×Value)=>t.setIfInBounds p.1 p.2) tmps)∧ps.length=args'.length
 | [],args,args',m,m',tmps,ha,hm,e=>by
  cases ha with
  |nil=>
   simp only[fB,Option.some.injEq] at e
   subst e
   exact⟨hm,rfl⟩
  |cons=>simp[fB] at e
 |d::ds,args,args',m,m',tmps,ha,hm,e=>by
  cases ha with
  |nil=>simp[fB] at e
  |cons v v' l l' hv hl=>
   simp only[fB] at e
   split at e
   ·rename_i m1 hm1
    obtain⟨h1,h2⟩:=qu ds l l' m1 m' _ hl (hm.put hv hm1).1 e
    exact⟨by simpa using h1,by simp[h2]⟩
   ·simp at e
theorem CU {l l':Nat} {args args':List Value} (hl:Γ.blk l=some (l',0)) (ha:aF Γ args args') (captured:List Value):fD P Γ (gS P (.yield l) captured args) (Instr.yield l' ⟨args'⟩) vL:=by
 intro W h n w hS
 unfold gS
 refine aj.get fun B hB=>?_
 split
 ·rename_i st gH tm ps as bd
  obtain⟨b,s,e,⟨rfl,L,h1,h2,h3,h4,h5,h6,h7⟩,_⟩:=hS.live _ _ hB
  rw[hl] at e
  obtain⟨rfl,_⟩:l'=b∧0=0:=by simpa using e
  split
  ·rename_i m hm
   obtain⟨g1,g2⟩:=qu ps args args' tm m L.tmps ha h4 hm
   refine aj.ok hS (b := .round l' L.fn ((L.params.zip ⟨args'⟩).foldl (fun tmps (t,a)=>tmps.setIfInBounds t a) L.tmps) L.assign L.body) ?_ ?_
   ·have vK:(Instr.getLoop l').run P w = .ok L w:=by simp[Instr.getLoop,getObj,Sem.run,h1]
    have hsz:(⟨args'⟩:Array Value).size=L.params.size:=by
     show args'.length=_
     rw[←g2,←h5];simp
    simp only[Instr.yield,Sem.run_bind,vK,Result.andThen_ok,hsz,ne_eq,not_true_eq_false,if_false]
    rfl
   ·rw[h6,h7]
    refine .round _ _ _ _ _ _ _ hl ⟨?_,?_⟩ rfl
    ·have:=g1.size
     rw[this]
     rw[←Array.foldl_toList,Array.toList_zip,h5]
    ·intro i
     have:=g1.get i
     rw[←Array.foldl_toList,Array.toList_zip,h5]
     exact this
  ·exact aj.fail
 ·exact aj.fail
theorem qv {fn fn':Fn} {captured captured' args args':List Value} (hf:rO Γ fn fn') (hc:aF Γ captured captured') (ha:aF Γ args args'):
  fD P Γ (gS P fn captured args) (invoke (.fn fn' ⟨captured'⟩) ⟨args'⟩) vL:=by
 cases hf with
 |yield l l' hl=>exact CU hl ha captured
 |plain _ hp=>
  intro W h n w hS
  cases fn with
  |yield l=>exact absurd rfl (hp l)
  |func f=>
   have:((⟨args'⟩:Array Value)++⟨captured'⟩)=⟨args'++captured'⟩:=by apply Array.ext';simp
   have e2:invoke (.fn (.func f) ⟨captured'⟩) ⟨args'⟩=callFunc f ⟨args'++captured'⟩:=by rw[←this];rfl
   rw[e2]
   exact jD (ha.append hc) W h n w hS
  |method name=>
   unfold gS
   cases ha with
   |nil=>exact aj.fail
   |cons r r' l l' hr hl=>
    have hex:(⟨r'::l'⟩:Array Value).extract 1 (⟨r'::l'⟩:Array Value).size=⟨l'⟩:=by apply Array.ext';simp
    have e2:invoke (.fn (.method name) ⟨captured'⟩) ⟨r'::l'⟩=callMethod r' name ⟨l'⟩:=by rw[←hex];rfl
    rw[e2]
    exact fG hr hl W h n w hS
  |methodOf t name=>
   unfold gS
   cases ha with
   |nil=>exact aj.fail
   |cons r r' l l' hr hl=>
    have hex:(⟨r'::l'⟩:Array Value).extract 1 (⟨r'::l'⟩:Array Value).size=⟨l'⟩:=by apply Array.ext';simp
    have e2:invoke (.fn (.methodOf t name) ⟨captured'⟩) ⟨r'::l'⟩=(do
      let recv:=match ←underlying t with
       | .interface _=>r'
       | _ => .iface t r'
      callMethod recv name ⟨l'⟩):=by rw[←hex];rfl
    rw[e2]
    dsimp only
    split
    ·rename_i ms hd
     refine aj.congr (w':=w) (e':=callMethod r' name ⟨l'⟩) ?_ (fG hr hl W h n w hS)
     simp only[Sem.run_bind,az hd,Result.andThen_ok]
    ·rename_i d hn hd
     refine aj.congr (w':=w) (e':=callMethod (.iface t r') name ⟨l'⟩) ?_ (fG (.iface _ _ _ hr) hl W h n w hS)
     simp only[Sem.run_bind,az hd,Result.andThen_ok]
    ·exact aj.fail
  |via t path f ptr=>
   unfold gS
   cases ha with
   |nil=>exact aj.fail
   |cons r r' l l' hr hl=>
    have hex:(⟨r'::l'⟩:Array Value).extract 1 (⟨r'::l'⟩:Array Value).size=⟨l'⟩:=by apply Array.ext';simp
    have e2:invoke (.fn (.via t path f ptr) ⟨captured'⟩) ⟨r'::l'⟩=(do
      let x ←receiverVia t r' path ptr
      callFunc f (#[x]++⟨l'⟩)):=by rw[←hex];rfl
    rw[e2]
    dsimp only
    refine aj.congr (w':=w) (e':=do
      let (xt,y) ←follow path.toList t (.val r')
      let x ←receiverAt xt y ptr none
      callFunc f (#[x]++⟨l'⟩)) ?_ ?_
    ·simp only[receiverVia,Sem.run_bind]
     cases (follow path.toList t (.val r')).run P w<;>rfl
    ·refine aj.bind (h_ path.toList Γ t _ _ (.val _ _ hr) W h n w hS) fun aS p q hle hpq=>?_
     obtain⟨xt,x⟩:=p
     obtain⟨xt',y⟩:=q
     obtain⟨he,hx⟩:=hpq
     obtain rfl:xt=xt':=he
     intro W h n w hS
     refine aj.bind (nA hx W h n w hS) fun Nd u u' hle' hu=>?_
     have oC:(#[u']++(⟨l'⟩:Array Value))=⟨u'::l'⟩:=by apply Array.ext';simp
     rw[oC]
     exact jD (.cons _ _ _ _ hu ((hl.mono hle).mono hle'))
theorem vM {b:Builtin} {ts:Array TypeId} {ty:TypeId} {cs:Array Bool} {args args':List Value} (ha:aF Γ args args'):
  fD P Γ ((lC P b ts.toList args).bind fun v => .pure (.value v)) (builtin b ts ty cs ⟨args'⟩) vL:=by
 have key:∀ {m:AP Value} {e:Sem Value},fD P Γ m e aA→fD P Γ (m.bind fun v => .pure (.value v)) (do pure (.value (←e)):Sem Next) vL:=by
  intro m e hm W h n w hS
  refine aj.bind (hm W h n w hS) fun aS v v' hle hv=>?_
  exact fun W h n w hS=>aj.ok hS rfl (.value _ _ hv)
 have iy:∀ {why:String} {e:Sem Next},fD P Γ ((AP.fail why:AP Value).bind fun v => .pure (.value v)) e vL:=fun W h n w hS=>aj.fail
 cases b with
 |append=>exact key (xE ha)
 |len=>exact key (EI ha)
 |cap=>exact key (EJ ha)
 |copy=>exact key (CK ha)
 |delete=>exact key (xG ha)
 |clear=>exact key (Ak ha)
 |min=>
  unfold lC
  cases ha with
  |nil=>exact iy
  |cons x x' r r' hx hr=>
   dsimp only
   refine key fun W h n w hS=>?_
   unfold AP.opt
   split
   ·rename_i v hv
    obtain⟨v',hrun,hrel⟩:=nO (P:=P) false r r' x x' v hx hr hv
    exact aj.ok hS (hrun w) hrel
   ·exact aj.fail
 |max=>
  unfold lC
  cases ha with
  |nil=>exact iy
  |cons x x' r r' hx hr=>
   dsimp only
   refine key fun W h n w hS=>?_
   unfold AP.opt
   split
   ·rename_i v hv
    obtain⟨v',hrun,hrel⟩:=nO (P:=P) true r r' x x' v hx hr hv
    exact aj.ok hS (hrun w) hrel
   ·exact aj.fail
 | _=>exact iy
theorem CV {ρ ρ':Operand→Value} {c:Call} {ty:TypeId} (hρ:∀ x∈c.operands,aA Γ (ρ x) (ρ' x)):fD P Γ (oh P ρ c) (do let d ←resolve ρ' c ty;invoke d.target d.args) vL:=by
 intro W h n w hS
 have hargs:aF Γ (c.args.toList.map ρ) (c.args.toList.map ρ'):=aF.map _ fun x hx=>hρ x (by simp[Call.operands];exact .inr (by simpa using hx))
 have hae:c.args.map ρ'=⟨c.args.toList.map ρ'⟩:=by apply Array.ext';simp
 unfold oh
 split
 ·rename_i b hc
  refine aj.congr (w':=w) (e':=builtin b c.argTypes ty (c.args.map fun | .const _=>true | _=>false) ⟨c.args.toList.map ρ'⟩) ?_ (vM hargs W h n w hS)
  simp only[resolve,hc,hae,Sem.run_bind,Sem.run_pure,Result.andThen_ok,invoke]
  rfl
 ·rename_i recv name hc
  have hr:aA Γ (ρ recv) (ρ' recv):=hρ recv (by simp[Call.operands,hc])
  refine aj.congr (w':=w) (e':=callMethod (ρ' recv) name ⟨c.args.toList.map ρ'⟩) ?_ (fG hr hargs W h n w hS)
  have hex:(#[ρ' recv]++c.args.map ρ').extract 1 (#[ρ' recv]++c.args.map ρ').size=⟨c.args.toList.map ρ'⟩:=by apply Array.ext';simp;exact List.take_of_length_le (by simp)
  have h0:(#[ρ' recv]++c.args.map ρ')[0]? = some (ρ' recv):=by rw[Array.getElem?_append_left (by simp)];rfl
  simp only[resolve,hc,Sem.run_bind,Sem.run_pure,Result.andThen_ok,invoke,h0,hex]
 ·rename_i f hc
  have hf:aA Γ (ρ f) (ρ' f):=hρ f (by simp[Call.operands,hc])
  split
  ·rename_i fn first captured heq
   rw[heq] at hf
   generalize hv:ρ' f=fv at hf
   cases hf with
   |func _ fn' l1 Sh l2 Si h1 h2 hp=>
    have aaH:((⟨Sh⟩:Array Value)++c.args.map ρ')=⟨Sh++c.args.toList.map ρ'⟩:=by apply Array.ext';simp
    refine aj.congr (w':=w) (e':=invoke (.fn fn' ⟨Si⟩) ⟨Sh++c.args.toList.map ρ'⟩) ?_ (qv hp h2 (h1.append hargs) W h n w hS)
    simp only[resolve,hc,hv,Deferred.ofValue,Sem.run_bind,Sem.run_pure,Result.andThen_ok,aaH]
  ·exact aj.fail
end
end Go.Am
