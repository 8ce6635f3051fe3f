/-
A part.
-/
import Derived.Test.YtofmbmclopgldaaGreatAmO
set_option linter.all false
namespace Go.Am
open Go.RowKit
section
variable {P:Program} {Γ:bL} {W w:World} {h:PT aj} {n:Nat}
inductive zV (Γ:bL):Value ⊕ Addr→Place→Prop
 |val (v v':Value) (h:aD Γ v v'):zV Γ (.inl v) (.val v')
 |var (a a':Addr) (h:Γ.addr a a'):zV Γ (.inr a) (.var a')
def ao8(Γ:bL)(x:TypeId×(Value ⊕ Addr))(y:TypeId×Place):Prop:=x.1=y.1∧zV Γ x.2 y.2
theorem uO{t:TypeId}{a a':Addr}(ha:Γ.addr a a'):iA P Γ (fG P t (.pointer (some a))) (loadVar t a') aD:=by
 intro W h n w hS;refine ak.congr (w':=w) (e':=Instr.loadAt t (.pointer (some a'))) ?_ (zQ (.ptr _ _ ha) W h n w hS);simp[Instr.loadAt,Instr.sureAddr]
theorem lZ{t:TypeId}{x:Value ⊕ Addr}{y:Place}(hx:zV Γ x y):iA P Γ (lU P t x) (y.get t) aD:=by
 cases hx with
 |val v v' hv=>exact fun W h n w hS=>ak.ok hS rfl hv
 |var a a' ha=>exact uO ha
theorem oL{a:Addr}{f:Field}{i:TypeInfo}(hi:P.info? f.type=some i)(hz:i.size≠0)(w:World):(fieldPlace a f).run P w = .ok (a.add f.offset) w:=by
 simp[fieldPlace,bS hi,hz]
theorem ak.run_bind{α β γ:Type}{m:AP α}{e:Sem γ}{g:γ→Sem β}{c:γ}{R:bL→α→β→Prop}(he:e.run P w = .ok c w)(hk:ak P Γ W h n w m (g c) R):ak P Γ W h n w m (e >>= g) R:=
 ak.congr (w':=w) (by rw[Sem.run_bind,he];rfl) hk
theorem jN:∀ (path:List FieldStep) (Γ:bL) (t:TypeId) (x:Value ⊕ Addr) (y:Place),zV Γ x y→iA P Γ (mY P path t x) (follow path t y) ao8
 | [],Γ,t,x,y,hx=>fun W h n w hS=>ak.ok hS rfl ⟨rfl,hx⟩
 |s::rest,Γ,t,x,y,hx=>by
  intro W h n w hS;unfold mY;split
  ·rename_i fs hd;split
   ·rename_i f hf;have hf':fs[s.index]? = some f:=by simpa using hf
    split
    ·rename_i i hi;cases hz:Nat.beq i.size 0 with
     |true=>exact ak.fail
     |false=>
      have hz:i.size≠0:=fun e=>by rw[e] at hz;exact Bool.noConfusion hz
      simp only[cond_false];cases hde:s.deref with
      |true=>
       simp only[cond_true];have hrun:(follow (s::rest) t y).run P w=(do
         let v ←y.get t
         let a ←asAddr v
         follow rest f.type (.var (←fieldPlace a f)):Sem (TypeId×Place)).run P w:=by
        simp only[follow,Sem.run_bind,aE hd,Result.andThen_ok,hf',hde,if_true]
       refine ak.congr hrun ?_;refine ak.bind (lZ hx W h n w hS) fun aY v v' hle hv=>?_;intro W h n w hS;split
       ·rename_i a;cases hv with
        |ptr _ a' ha=>
         refine ak.run_bind (c:=a') rfl ?_;refine ak.run_bind (c:=a'.add f.offset) (oL hi hz w) ?_;exact jN rest aY f.type _ _ (.var _ _ (ha.add _)) W h n w hS
       ·exact ak.fail
      |false=>
       simp only[cond_false];split
       ·rename_i a;cases hx with
        |var _ a' ha=>
         have hrun:(follow (s::rest) t (.var a')).run P w=(follow rest f.type (.var (a'.add f.offset))).run P w:=by
          simp[follow,aE hd,hf',hde,oL hi hz]
         exact ak.congr hrun (jN rest Γ f.type _ _ (.var _ _ (ha.add _)) W h n w hS)
       ·rename_i cs;cases hx with
        |val _ _ hv=>
         cases hv with
         |agg l l' hl=>
          split
          ·rename_i v hv;obtain⟨v',hr,hrel⟩:=iq hl hv;have hrun:(follow (s::rest) t (.val (.agg ⟨l'⟩))).run P w=(follow rest f.type (.val v')).run P w:=by
            simp[follow,aE hd,hf',hde,hr]
           exact ak.congr hrun (jN rest Γ f.type _ _ (.val _ _ hrel) W h n w hS)
          ·exact ak.fail
       ·exact ak.fail
    ·exact ak.fail
   ·exact ak.fail
  ·exact ak.fail
theorem Dq(xt:TypeId)(a:Addr)(s m:String)(w:World):(Builtin.ssaWrapNilChk_ #[xt] xt #[.pointer (some a),strVal s,strVal m]).run P w = .ok (.pointer (some a)) w:=rfl
theorem qG{xt:TypeId}{x:Value ⊕ Addr}{y:Place}{ptr:Bool}{wr:Option String}(hx:zV Γ x y):iA P Γ (pW P xt x ptr) (receiverAt xt y ptr wr) aD:=by
 intro W h n w hS;unfold pW;split
 ·rename_i e hd;refine ak.congr (w':=w) (e':=y.get xt) ?_ (lZ hx W h n w hS);simp only[receiverAt,Sem.run_bind,aE hd,Result.andThen_ok]
 ·rename_i e hd;refine ak.congr (w':=w) (e':=do
   let p ←y.get xt
   let p ←match wr with
    |some name=>Builtin.ssaWrapNilChk_ #[xt] xt #[p,strVal "",strVal name]
    |none=>pure p
   loadVar e (←asAddr p)) ?_ ?_
  ·simp only[receiverAt,Sem.run_bind,aE hd,Result.andThen_ok];cases wr<;>rfl
  ·refine ak.bind (lZ hx W h n w hS) fun aY v v' hle hv=>?_;intro W h n w hS;split
   ·rename_i a;cases hv with
    |ptr _ a' ha=>
     refine ak.congr (w':=w) (e':=loadVar e a') ?_ (uO ha W h n w hS);cases wr with
     |none=>simp[asAddr]
     |some s=>simp only[Sem.run_bind,Dq,Result.andThen_ok,asAddr,Sem.run_pure]
   ·exact ak.fail
 ·rename_i d a hn1 hd;cases hx with
  |var _ a' ha=>
   refine ak.ok hS (b := .pointer (some a')) ?_ (.ptr _ _ ha);simp only[receiverAt,Sem.run_bind,aE hd,Result.andThen_ok];cases d<;>first|rfl|exact(hn1 _ rfl).elim
 ·rename_i _ d hn2 hd;refine ak.congr (w':=w) (e':=y.get xt) ?_ (lZ hx W h n w hS);simp only[receiverAt,Sem.run_bind,aE hd,Result.andThen_ok]
 ·exact ak.fail
def acR(Γ:bL)(x:FuncId×Value)(y:FuncId×Value):Prop:=x.1=y.1∧aD Γ x.2 y.2
theorem uP:∀ (d D:Nat) (_:d≤D) (Γ:bL) (t:TypeId) (v v':Value) (name:String),aD Γ v v'→iA P Γ (vP P d t v name) (method D t v' name) acR
 |0,D,_,Γ,t,v,v',name,hv=>fun W h n w hS=>ak.fail
 |d+1,0,hD,Γ,t,v,v',name,hv=>absurd hD qJ
 |d+1,D+1,hD,Γ,t,v,v',name,hv=>by
  intro W h n w hS;unfold vP;split
  ·rename_i i hi;split
   ·rename_i m hm;have hm':i.methods.find? (fun m=>m.name==name)=some m:=by rw[←Array.find?_toList];exact hm
    refine ak.congr (w':=w) (e':=do
     let (xt,x) ←follow m.path.toList t (.val v')
     match m.func with
     |none=>
      match ←x.get xt with
      | .iface t' v'=>method D t' v' name
      | .nilIface=>runtimePanic .nilDeref
      | _=>stuck "method row: interface value expected"
     |some (f,pointerReceiver)=>
      pure (f,←receiverAt xt x pointerReceiver (if m.path.isEmpty then some ((name.splitOn ".").getLastD name) else none))) ?_ ?_
    ·simp only[method,Sem.run_bind,eO hi,Result.andThen_ok,hm'];rfl
    ·refine ak.bind (jN m.path.toList Γ t _ _ (.val _ _ hv) W h n w hS) fun aY p q hle hpq=>?_;obtain⟨xt,x⟩:=p;obtain⟨xt',y⟩:=q;obtain⟨he,hx⟩:=hpq;obtain rfl:xt=xt':=he;intro W h n w hS;dsimp only;cases hmf:m.func with
     |some fp=>
      obtain⟨f,ptr⟩:=fp;dsimp only;refine ak.bind (qG hx W h n w hS) fun XZ r r' hle' hr=>?_;exact fun W h n w hS=>ak.ok hS rfl ⟨rfl,hr⟩
     |none=>
      dsimp only;refine ak.bind (lZ hx W h n w hS) fun XZ r r' hle' hr=>?_;intro W h n w hS;split
      ·rename_i t' u;cases hr with
       |iface _ _ u' hu=>exact uP d D qJ XZ t' u u' name hu W h n w hS
      ·exact ak.fail
   ·exact ak.fail
  ·exact ak.fail
inductive Bn (Γ:bL):aG→Next→Prop
 |value (v v':Value) (h:aD Γ v v'):Bn Γ (.value v) (.value v')
 |skip:Bn Γ .skip .skip
 |enter (f:FuncId) (args args':List Value) (h:aM Γ args args'):Bn Γ (.enter f args) (.enter f ⟨args'⟩)
 |round (l l':Nat) (m:Tm) (fn:FuncId) (tmps:Array Value) (as bd:Code) (h:Γ.blk l=some (l',0)) (ht:ij Γ m tmps) (hd:m.fF=[]):Bn Γ (.round l m as bd) (.round l' fn tmps as bd)
theorem lJ{f:FuncId}{args args':List Value}(ha:aM Γ args args'):iA P Γ (ah P f args) (callFunc f ⟨args'⟩) Bn:=by
 intro W h n w hS;unfold ah;split
 ·rename_i fn hf;cases XY:(fn.name == "runtime.NumGoroutine") with
  |true=>exact ak.fail
  |false=>
   simp only[cond_false];cases hb:fn.body.isSome with
   |true=>
    refine ak.ok hS (b := .enter f ⟨args'⟩) ?_ (.enter _ _ _ ha);have hb':fn.body.isNone=false:=by cases Rt:fn.body with |none=>rw[Rt] at hb;simp at hb |some c=>rfl
    unfold callFunc;simp only[Sem.run_bind,run_program,Result.andThen_ok,hf,XY,Bool.false_eq_true,if_false,hb',Sem.run_pure]
   |false=>
    simp only[cond_false];split
    ·rename_i k hk;unfold CY at hk;have hk':=List.find?_some hk;simp only[Bool.and_eq_true,Bool.or_eq_true,beq_iff_eq] at hk';refine ak.congr (w':=w) (e':=do let v ←fX k ⟨args'⟩;pure (.value v)) ?_ ?_
     ·rw[Gi hf hb hk'.1 hk'.2,Sem.run_bind];rfl
     ·refine ak.bind (Dn k ha W h n w hS) fun aY v v' hle hv=>?_;exact fun W h n w hS=>ak.ok hS rfl (.value _ _ hv)
    ·exact ak.fail
 ·exact ak.fail
theorem iC{recv recv':Value}{name:String}{args args':List Value}(hr:aD Γ recv recv')(ha:aM Γ args args'):iA P Γ (gB P recv name args) (callMethod recv' name ⟨args'⟩) Bn:=by
 intro W h n w hS;unfold gB;split
 ·rename_i t v;cases hr with
  |iface _ _ v' hv=>
   refine ak.congr (w':=w) (e':=do
    let (f,r) ←method (P.types.size+Made.depth) t v' name
    callFunc f (#[r]++⟨args'⟩)) ?_ ?_
   ·simp only[callMethod,Sem.run_bind,run_program,Result.andThen_ok]
   ·refine ak.bind (uP 6 _ (by unfold Made.depth;omega) Γ t v v' name hv W h n w hS) fun aY p q hle hpq=>?_;obtain⟨f,r⟩:=p;obtain⟨f',r'⟩:=q;obtain⟨he,hr⟩:=hpq;obtain rfl:f=f':=he;have sv:(#[r']++(⟨args'⟩:Array Value))=⟨r'::args'⟩:=by apply Array.ext';simp
    dsimp only;rw[sv];exact lJ (.cons _ _ _ _ hr (ha.mono hle))
 ·exact ak.fail
theorem ij.put{m m':Tm}{tmps:Array Value}{v v':Value}{i:Nat}(hm:ij Γ m tmps)(hv:aD Γ v v')(e:m.put (some i) v=some m'):ij Γ m' (tmps.setIfInBounds i v')∧m'.fF=m.fF:=by
 unfold Tm.put at e;cases hlt:Nat.blt i m.n with
 |false=>simp[hlt] at e
 |true=>
  have hlt:i<m.n:=Nat.blt_eq.mp hlt;simp only[Nat.blt_eq.mpr hlt,cond_true,Option.some.injEq] at e;subst e;refine⟨⟨by simp[hm.size],fun j=>?_⟩,rfl⟩;by_cases hj:j=i
  ·subst hj;have:j<tmps.size:=by rw[←hm.size];exact hlt
   simp only[PT.fN,Array.getD_eq_getD_getElem?];rw[Array.getElem?_setIfInBounds_self_of_lt this];exact hv
  ·have:=hm.get j;simp only[PT.cB _ _ (Ne.symm hj),Array.getD_eq_getD_getElem?] at this ⊢;rw[Array.getElem?_setIfInBounds_ne (Ne.symm hj)];exact this
theorem uQ:∀ (ps:List Tmp) (args args':List Value) (m m':Tm) (tmps:Array Value),aM Γ args args'→ij Γ m tmps→iy ps args m=some m'→
  ij Γ m' ((ps.zip args').foldl (fun (t:Array Value) (p:Tmp×Value)=>t.setIfInBounds p.1 p.2) tmps)∧ps.length=args'.length
 | [],args,args',m,m',tmps,ha,hm,e=>by
  cases ha with
  |nil=>
   simp only[iy,Option.some.injEq] at e;subst e;exact⟨hm,rfl⟩
  |cons=>simp[iy] at e
 |d::ds,args,args',m,m',tmps,ha,hm,e=>by
  cases ha with
  |nil=>simp[iy] at e
  |cons v v' l l' hv hl=>
   simp only[iy] at e;split at e
   ·rename_i m1 hm1;obtain⟨h1,h2⟩:=uQ ds l l' m1 m' _ hl (hm.put hv hm1).1 e;exact⟨by simpa using h1,by simp[h2]⟩
   ·simp at e
theorem JY{l l':Nat}{args args':List Value}(hl:Γ.blk l=some (l',0))(ha:aM Γ args args')(captured:List Value):iA P Γ (j7 P (.yield l) captured args) (Instr.yield l' ⟨args'⟩) Bn:=by
 intro W h n w hS;unfold j7;refine ak.get fun B hB=>?_;split
 ·rename_i st h_ tm ps as bd;obtain⟨b,s,e,⟨rfl,L,h1,h2,h3,h4,h5,h6,h7⟩,_⟩:=hS.live _ _ hB;rw[hl] at e;obtain⟨rfl,_⟩:l'=b∧0=0:=by simpa using e
  split
  ·rename_i m hm;obtain⟨g1,g2⟩:=uQ ps args args' tm m L.tmps ha h4 hm;refine ak.ok hS (b := .round l' L.fn ((L.params.zip ⟨args'⟩).foldl (fun tmps (t,a)=>tmps.setIfInBounds t a) L.tmps) L.assign L.body) ?_ ?_
   ·have Bm:(Instr.getLoop l').run P w = .ok L w:=by simp[Instr.getLoop,getObj,Sem.run,h1]
    have hsz:(⟨args'⟩:Array Value).size=L.params.size:=by
     show args'.length=_
     rw[←g2,←h5];simp
    simp only[Instr.yield,Sem.run_bind,Bm,Result.andThen_ok,hsz,ne_eq,not_true_eq_false,if_false];rfl
   ·rw[h6,h7];refine .round _ _ _ _ _ _ _ hl ⟨?_,?_⟩ rfl
    ·have:=g1.size;rw[this];rw[←Array.foldl_toList,Array.toList_zip,h5]
    ·intro i;have:=g1.get i;rw[←Array.foldl_toList,Array.toList_zip,h5];exact this
  ·exact ak.fail
 ·exact ak.fail
theorem uR{fn fn':Fn}{captured captured' args args':List Value}(hf:wO Γ fn fn')(hc:aM Γ captured captured')(ha:aM Γ args args'):
  iA P Γ (j7 P fn captured args) (invoke (.fn fn' ⟨captured'⟩) ⟨args'⟩) Bn:=by
 cases hf with
 |yield l l' hl=>exact JY hl ha captured
 |plain _ hp=>
  intro W h n w hS;cases fn with
  |yield l=>exact absurd rfl (hp l)
  |func f=>
   have:((⟨args'⟩:Array Value)++⟨captured'⟩)=⟨args'++captured'⟩:=by apply Array.ext';simp
   have e2:invoke (.fn (.func f) ⟨captured'⟩) ⟨args'⟩=callFunc f ⟨args'++captured'⟩:=by rw[←this];rfl
   rw[e2];exact lJ (ha.append hc) W h n w hS
  |method name=>
   unfold j7;cases ha with
   |nil=>exact ak.fail
   |cons r r' l l' hr hl=>
    have hex:(⟨r'::l'⟩:Array Value).extract 1 (⟨r'::l'⟩:Array Value).size=⟨l'⟩:=by apply Array.ext';simp
    have e2:invoke (.fn (.method name) ⟨captured'⟩) ⟨r'::l'⟩=callMethod r' name ⟨l'⟩:=by rw[←hex];rfl
    rw[e2];exact iC hr hl W h n w hS
  |methodOf t name=>
   unfold j7;cases ha with
   |nil=>exact ak.fail
   |cons r r' l l' hr hl=>
    have hex:(⟨r'::l'⟩:Array Value).extract 1 (⟨r'::l'⟩:Array Value).size=⟨l'⟩:=by apply Array.ext';simp
    have e2:invoke (.fn (.methodOf t name) ⟨captured'⟩) ⟨r'::l'⟩=(do
      let recv:=match ←underlying t with
       | .interface _=>r'
       | _ => .iface t r'
      callMethod recv name ⟨l'⟩):=by rw[←hex];rfl
    rw[e2];dsimp only;split
    ·rename_i ms hd;refine ak.congr (w':=w) (e':=callMethod r' name ⟨l'⟩) ?_ (iC hr hl W h n w hS);simp only[Sem.run_bind,aE hd,Result.andThen_ok]
    ·rename_i d hn hd;refine ak.congr (w':=w) (e':=callMethod (.iface t r') name ⟨l'⟩) ?_ (iC (.iface _ _ _ hr) hl W h n w hS);simp only[Sem.run_bind,aE hd,Result.andThen_ok]
    ·exact ak.fail
  |via t path f ptr=>
   unfold j7;cases ha with
   |nil=>exact ak.fail
   |cons r r' l l' hr hl=>
    have hex:(⟨r'::l'⟩:Array Value).extract 1 (⟨r'::l'⟩:Array Value).size=⟨l'⟩:=by apply Array.ext';simp
    have e2:invoke (.fn (.via t path f ptr) ⟨captured'⟩) ⟨r'::l'⟩=(do
      let x ←receiverVia t r' path ptr
      callFunc f (#[x]++⟨l'⟩)):=by rw[←hex];rfl
    rw[e2];dsimp only;refine ak.congr (w':=w) (e':=do
      let (xt,y) ←follow path.toList t (.val r')
      let x ←receiverAt xt y ptr none
      callFunc f (#[x]++⟨l'⟩)) ?_ ?_
    ·simp only[receiverVia,Sem.run_bind];cases (follow path.toList t (.val r')).run P w<;>rfl
    ·refine ak.bind (jN path.toList Γ t _ _ (.val _ _ hr) W h n w hS) fun aY p q hle hpq=>?_;obtain⟨xt,x⟩:=p;obtain⟨xt',y⟩:=q;obtain⟨he,hx⟩:=hpq;obtain rfl:xt=xt':=he;intro W h n w hS;refine ak.bind (qG hx W h n w hS) fun XZ u u' hle' hu=>?_;have sv:(#[u']++(⟨l'⟩:Array Value))=⟨u'::l'⟩:=by apply Array.ext';simp
     rw[sv];exact lJ (.cons _ _ _ _ hu ((hl.mono hle).mono hle'))
theorem Bo{b:Builtin}{ts:Array TypeId}{ty:TypeId}{cs:Array Bool}{args args':List Value}(ha:aM Γ args args'):
  iA P Γ ((oD P b ts.toList args).bind fun v => .pure (.value v)) (builtin b ts ty cs ⟨args'⟩) Bn:=by
 have key:∀ {m:AP Value} {e:Sem Value},iA P Γ m e aD→iA P Γ (m.bind fun v => .pure (.value v)) (do pure (.value (←e)):Sem Next) Bn:=by
  intro m e hm W h n w hS;refine ak.bind (hm W h n w hS) fun aY v v' hle hv=>?_;exact fun W h n w hS=>ak.ok hS rfl (.value _ _ hv)
 have jY:∀ {why:String} {e:Sem Next},iA P Γ ((AP.fail why:AP Value).bind fun v => .pure (.value v)) e Bn:=fun W h n w hS=>ak.fail;cases b with
 |append=>exact key (Dh ha)
 |len=>exact key (Mn ha)
 |cap=>exact key (Mp ha)
 |copy=>exact key (JO ha)
 |delete=>exact key (Dj ha)
 |clear=>exact key (Gj ha)
 |min=>
  unfold oD;cases ha with
  |nil=>exact jY
  |cons x x' r r' hx hr=>
   dsimp only;refine key fun W h n w hS=>?_;unfold AP.opt;split
   ·rename_i v hv;obtain⟨v',hrun,hrel⟩:=qU (P:=P) false r r' x x' v hx hr hv;exact ak.ok hS (hrun w) hrel
   ·exact ak.fail
 |max=>
  unfold oD;cases ha with
  |nil=>exact jY
  |cons x x' r r' hx hr=>
   dsimp only;refine key fun W h n w hS=>?_;unfold AP.opt;split
   ·rename_i v hv;obtain⟨v',hrun,hrel⟩:=qU (P:=P) true r r' x x' v hx hr hv;exact ak.ok hS (hrun w) hrel
   ·exact ak.fail
 | _=>exact jY
theorem JZ{ρ ρ':Operand→Value}{c:Call}{ty:TypeId}(hρ:∀ x∈c.operands,aD Γ (ρ x) (ρ' x)):iA P Γ (rU P ρ c) (do let d ←resolve ρ' c ty;invoke d.target d.args) Bn:=by
 intro W h n w hS;have hargs:aM Γ (c.args.toList.map ρ) (c.args.toList.map ρ'):=aM.map _ fun x hx=>hρ x (by simp[Call.operands];exact .inr (by simpa using hx));have LP:c.args.map ρ'=⟨c.args.toList.map ρ'⟩:=by apply Array.ext';simp
 unfold rU;split
 ·rename_i b hc;refine ak.congr (w':=w) (e':=builtin b c.argTypes ty (c.args.map fun | .const _=>true | _=>false) ⟨c.args.toList.map ρ'⟩) ?_ (Bo hargs W h n w hS);simp only[resolve,hc,LP,Sem.run_bind,Sem.run_pure,Result.andThen_ok,invoke];rfl
 ·rename_i recv name hc;have hr:aD Γ (ρ recv) (ρ' recv):=hρ recv (by simp[Call.operands,hc]);refine ak.congr (w':=w) (e':=callMethod (ρ' recv) name ⟨c.args.toList.map ρ'⟩) ?_ (iC hr hargs W h n w hS);have hex:(#[ρ' recv]++c.args.map ρ').extract 1 (#[ρ' recv]++c.args.map ρ').size=⟨c.args.toList.map ρ'⟩:=by apply Array.ext';simp;exact List.take_of_length_le (by simp)
  have h0:(#[ρ' recv]++c.args.map ρ')[0]? = some (ρ' recv):=by rw[Array.getElem?_append_left (by simp)];rfl
  simp only[resolve,hc,Sem.run_bind,Sem.run_pure,Result.andThen_ok,invoke,h0,hex]
 ·rename_i f hc;have hf:aD Γ (ρ f) (ρ' f):=hρ f (by simp[Call.operands,hc]);split
  ·rename_i fn first captured heq
   rw[heq] at hf;generalize hv:ρ' f=fv at hf;cases hf with
   |func _ fn' l1 l1' l2 l2' h1 h2 hp=>
    have ao_:((⟨l1'⟩:Array Value)++c.args.map ρ')=⟨l1'++c.args.toList.map ρ'⟩:=by apply Array.ext';simp
    refine ak.congr (w':=w) (e':=invoke (.fn fn' ⟨l2'⟩) ⟨l1'++c.args.toList.map ρ'⟩) ?_ (uR hp h2 (h1.append hargs) W h n w hS);simp only[resolve,hc,hv,Deferred.ofValue,Sem.run_bind,Sem.run_pure,Result.andThen_ok,ao_]
  ·exact ak.fail
end
end Go.Am
