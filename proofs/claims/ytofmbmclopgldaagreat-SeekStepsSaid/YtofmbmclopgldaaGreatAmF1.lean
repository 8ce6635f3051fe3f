/-
A part.
-/
import Derived.Test.YtofmbmclopgldaaGreatAmU5
set_option linter.all false
namespace Go.Am
open Go.RowKit
theorem o_{k:IntKind}{h:PT aj}{a:Option Addr}{cap:Nat}{xs:List Int}(hs:aN k h (.slice a xs.length cap) xs):(iG 1 (.slice a xs.length cap)).look h=some (xs.length,xs.map (.int k)):=by
 rcases hs.BL with ⟨e,rfl⟩ | ⟨b,off,sp,c,L,ro,e,rfl,hb⟩ | ⟨b,off,sp,c,L,ro,e,hb,hB,hT⟩
 ·cases e;rfl
 ·cases e;rw[List.length_nil,xI,oX,hb];simp only[BI,Nat.zero_mul,Nat.beq_refl,Bool.or_true,cond_true,aF,List.take_zero,List.map_nil]
 ·cases e;rw[xI,oX,hb];simp only[BI,Nat.mul_one];have h1:(Nat.ble (off+xs.length) L.length||Nat.beq xs.length 0)=true:=by first|exact hB | (rw[show Nat.ble (off+xs.length) L.length=true from by first|exact hB|exact Nat.ble_eq_true_of_le hB];rfl)
  rw[h1,cond_true,aF,hT]
theorem TG{q:AP Value}{z:Zx}{d:Option Nat}{ops r:List Oper}{K:List KF}{m:Tm}{h:PT aj}{n:Nat}(I:Value→PT aj→Nat→Prop)(hI:∃ v h' n',q.run 0 (S0 h n) = .ok v (S0 h' n')∧I v h' n')
  (hk:∀ v h' n',I v h' n'→jZ z (.pure (.value v)) d ops r K m h' n'):jZ z (q.bind fun v => .pure (.value v)) d ops r K m h n:=by
 obtain⟨v,h',n',e,hi⟩:=hI;have:=hk v h' n' hi;unfold jZ at*;simp only[run_bind,e,aS];exact this
theorem Oq{β:Type}{q:AP β}{f:β→AP Value}{z:Zx}{d:Option Nat}{ops r:List Oper}{K:List KF}{m:Tm}{h:PT aj}{n:Nat}(I:Value→PT aj→Nat→Prop)(hI:∃ v h' n',(q.bind f).run 0 (S0 h n) = .ok v (S0 h' n')∧I v h' n')
  (hk:∀ v h' n',I v h' n'→jZ z (.pure (.value v)) d ops r K m h' n'):jZ z (q.bind fun a=>(f a).bind fun v => .pure (.value v)) d ops r K m h n:=by
 obtain⟨v,h',n',e,hi⟩:=hI;have:=hk v h' n' hi;rw[run_bind] at e;obtain⟨a,s,e1,e2⟩:=bE e;unfold jZ at*;simp only[run_bind,e1,e2,aS];exact this
end Go.Am
namespace Go.Am
section
variable {P:Program} {ρ:Operand→Value} {d:Option Tmp} {ty:TypeId} {pos:String} {af:Array Edge} {g:Option (Nat×Bool)}
@[go_sem] theorem WJ{t:TypeId}:k7 P ρ ⟨d,.makeMap t none,ty,pos,af,g⟩ = .new (.map [] 0) fun id => .pure (.value (.map (some id))):=rfl
def lkQ(P:Program)(t:TypeId)(x k:Value)(ok:Bool):AP aG:=(mX P t x k ok).bind fun v => .pure (.value v)
@[go_sem] theorem YY{t:TypeId}{x i:Operand}{ok:Bool}:k7 P ρ ⟨d,.lookup t x i ok,ty,pos,af,g⟩=lkQ P t (ρ x) (ρ i) ok:=rfl
def WK(P:Program)(t:TypeId)(x k v:Value):AP aG:=(fK P t x k v).bind fun _ => .pure .skip
@[go_sem] theorem RU{t:TypeId}{x i v:Operand}:k7 P ρ ⟨d,.mapUpdate t x i v,ty,pos,af,g⟩=WK P t (ρ x) (ρ i) (ρ v):=rfl
def Ot(P:Program)(et:TypeId)(ok:Bool):Option (Option (Nat×Value))→AP aG
 |some (some (_,v)) => .pure (.value (cond ok (.tuple ⟨[v,.bool true]⟩) v))
 |some none=>match zeroOf P et with
  |some z => .pure (.value (cond ok (.tuple ⟨[z,.bool false]⟩) z))
  |none => .fail "lookup"
 |none => .fail "lookup"
def YZ(P:Program)(kd:TypeDesc)(et:TypeId)(k:Value)(ok:Bool):aj→AP aG
 | .map es _=>Ot P et ok (dh P kd k es 0)
 | _ => .fail "map block"
theorem TH{t kt et:TypeId}{kd:TypeDesc}{r:Nat}{k:Value}{ok:Bool}(h1:P.underlying t=some (.map kt et))(h2:P.underlying kt=some kd)(h3:nZ P kt kd k=true):lkQ P t (.map (some r)) k ok = .get r (YZ P kd et k ok):=by
 unfold lkQ mX pU;simp only[h1,h2,h3,cond_true,AP.bind]
 congr 1
 funext b
 cases b with
 |map es c=>
  simp only[AP.bind,YZ];unfold Ot;cases dh P kd k es 0 with
  |none=>rfl
  |some q=>
   cases q with
   |none=>simp only;cases zeroOf P et<;>rfl
   |some p=>rfl
 | _=>rfl
theorem TI{kd:TypeDesc}{et:TypeId}{k:Value}{ok:Bool}{es:List (Value×Value×Nat)}{c:Nat}:YZ P kd et k ok (.map es c)=Ot P et ok (dh P kd k es 0):=rfl
def Y0(r:Nat)(simple:Bool)(k v:Value)(es:List (Value×Value×Nat))(clk:Nat):Option (Option (Nat×Value))→AP aG
 |some (some (i,_))=>cond simple (.set r (.map (ia k v es i) clk) (.pure .skip)) (.fail "mapUpdate")
 |some none => .set r (.map (es++[(k,v,clk)]) (clk+1)) (.pure .skip)
 |none => .fail "mapUpdate"
def KK(P:Program)(r:Nat)(kd:TypeDesc)(k v:Value):aj→AP aG
 | .map es clk=>Y0 r (simpleKey kd) k v es clk (dh P kd k es 0)
 | _ => .fail "mapUpdate"
theorem TJ{t kt et:TypeId}{kd:TypeDesc}{r:Nat}{k v:Value}(h1:P.underlying t=some (.map kt et))(h2:P.underlying kt=some kd)(h3:nZ P kt kd k=true):WK P t (.map (some r)) k v = .get r (KK P r kd k v):=by
 unfold WK fK;simp only[h1,h2,h3,cond_true,AP.bind]
 congr 1
 funext b
 cases b with
 |map es c=>
  simp only[KK];unfold Y0;cases dh P kd k es 0 with
  |none=>rfl
  |some q=>
   cases q with
   |none=>rfl
   |some p=>simp only;cases simpleKey kd<;>rfl
 | _=>rfl
theorem TK{r:Nat}{kd:TypeDesc}{k v:Value}{es:List (Value×Value×Nat)}{c:Nat}:KK P r kd k v (.map es c)=Y0 r (simpleKey kd) k v es c (dh P kd k es 0):=rfl
def mlB:aj→AP aG
 | .map es _ => .pure (.value (.int .i64 es.length))
 | _ => .fail "map block"
@[go_sem] theorem ah_{es:List (Value×Value×Nat)}{c:Nat}:mlB (.map es c) = .pure (.value (.int .i64 es.length)):=rfl
end
end Go.Am
namespace Go.Am
def KL(m:Tm)(d:List Nat):Tm:={ m with fF:=d }
@[go_sem] theorem apF{m:Tm}{d:List Nat}:(KL m d).n=m.n:=rfl
@[go_sem] theorem ad9{m:Tm}{d:List Nat}:(KL m d).fF=d:=rfl
@[go_sem] theorem ad_{m:Tm}{d:List Nat}{i:Nat}:(KL m d).get i=m.get i:=rfl
def D2:List Nat→PT aj→Option (PT aj)
 | [],h=>some h
 |d::r,h=>match h.get d with
  |some .deferred=>D2 r (h.set d none)
  | _=>none
theorem SI:∀ (l:List Nat) (h h':PT aj) (n:Nat),D2 l h=some h'→fB 0 l (S0 h n) = .ok () (S0 h' n)
 | [],h,h',n,e=>by simp only[D2,Option.some.injEq] at e;subst e;rfl
 |d::r,h,h',n,e=>by
  simp only[D2] at e;split at e
  ·rename_i hd;have ih:=SI r (h.set d none) h' n e;simp only[fB,pX,AP.run,show (S0 h n).heap=h from rfl,hd,show Nat.blt d 0=false from rfl,cond_false];simp only[aS];exact ih
  ·simp at e
def acs(P:Program)(rs:List ResultVar)(R:Value→PT aj→Nat→Prop)(e:bp)(m:Tm)(h:PT aj)(n:Nat):Prop:=
 (match e with | .exit _=>False | _=>True)∧∃ h2,D2 m.fF h=some h2∧∃ l,mF P m h2 rs=some l∧R (oneOf l) h2 n
theorem aeH{P:Program}{O:Over}{f:FuncId}{fn:Func}{c:Code}{args:List Value}{h:PT aj}{n:Nat}{R:Value→PT aj→Nat→Prop}(hf:P.funcs[f]? = some fn)(hb:fn.body=some c)
  (H:∀ z:Zx,z.P=P→z.O=O→z.ro=none→z.N=args.length+(fn.ntmps-args.length)→z.Q=acs P fn.results.toList R→iZ z c [] ⟨args.length+(fn.ntmps-args.length),PT.ofList .leaf 0 args,[]⟩ h n):cE P O f args h n R:=by
 obtain⟨_,k,x,h',n',e,hx⟩:=H ⟨P,O,none,args.length+(fn.ntmps-args.length),acs P fn.results.toList R⟩ rfl rfl rfl rfl rfl;obtain⟨_,hx,h2,hd,l,hl,hR⟩:_∧acs P fn.results.toList R x.1 x.2 h' n':=hx;refine⟨k,oneOf l,h2,n',?_,hR⟩;simp only[gV,hf,hb];rw[e,aS];unfold iH;cases hx1:x.1 with
 |exit i=>rw[hx1] at hx;exact hx.elim
 |normal=>simp only;rw[SI _ _ _ _ hd,aS,vU hl];rfl
 |ret=>simp only;rw[SI _ _ _ _ hd,aS,vU hl];rfl
theorem acU{P:Program}{O:Over}{f:FuncId}{fn:Func}{c:Code}{args:List Value}{h:PT aj}{n N:Nat}{R:Value→PT aj→Nat→Prop}(hf:P.funcs[f]? = some fn)(hb:fn.body=some c)(hN:args.length+(fn.ntmps-args.length)=N)
  (H:∀ z:Zx,z.P=P→z.O=O→z.ro=none→z.N=N→z.Q=acs P fn.results.toList R→iZ z c [] ⟨N,PT.ofList .leaf 0 args,[]⟩ h n):cE P O f args h n R:=by
 subst hN;exact aeH hf hb H
@[go_sem] theorem aov{P:Program}{rs:List ResultVar}{R:Value→PT aj→Nat→Prop}{m:Tm}{h:PT aj}{n:Nat}:acs P rs R .ret m h n↔∃ h2,D2 m.fF h=some h2∧∃ l,mF P m h2 rs=some l∧R (oneOf l) h2 n:=by simp[acs]
@[go_sem] theorem abR{h:PT aj}:D2 [] h=some h:=rfl
def kd1(o:Option aj)(d:Nat)(r:List Nat)(h:PT aj):Option (PT aj):=match o with
 |some .deferred=>D2 r (h.set d none)
 | _=>none
@[go_sem] theorem Y1{d:Nat}{r:List Nat}{h:PT aj}:D2 (d::r) h=kd1 (h.get d) d r h:=rfl
@[go_sem] theorem ah'{d:Nat}{r:List Nat}{h:PT aj}:kd1 (some .deferred) d r h=D2 r (h.set d none):=rfl
section
variable {z:Zx} {K:List KF} {m:Tm} {h:PT aj} {n:Nat}
theorem acu{g:Operand}{ps:Array Tmp}{as bd:Code}{f:FuncId}{args:List Value}{fn:Fn}{first captured:Array Value}{R:Value→PT aj→Nat→Prop}(hn:m.n=z.N)(hro:z.ro=none)(hg:bz g=true)(he:m.eval g = .func fn first captured)
  (hc:j7 z.P fn captured.toList (first.toList++[.func (.yield (n+1)) ⟨[]⟩ ⟨[]⟩]) = .pure (.enter f args)) (hO:z.O f args=none)
  (hB:cE z.P z.O f args ((h.set n (some .deferred)).set (n+1) (some (.loop .ready none m ps.toList as bd))) (n+2) R)
  (hk:∀ v h' n',R v h' n'→h'.get (n+1)=some (.loop .ready none m ps.toList as bd)∧Rs z K .normal (KL m (n::m.fF)) (h'.set (n+1) (some (.loop .exhausted none m ps.toList as bd))) n'):iZ z (.rangeFunc g ps as bd) K m h n:=by
 obtain⟨k,v,h',n',e,hR⟩:=hB;obtain⟨hl,hr⟩:=hk v h' n' hR;refine⟨hn,k+1,(.normal,KL m (n::m.fF)),h'.set (n+1) (some (.loop .exhausted none m ps.toList as bd)),n',?_,hr⟩;rw[dr];simp only[br,fL,hg,cond_true,hro];unfold FG;simp only[AP.run,S0,aS];unfold lf;simp only[he,hc,AP.bind,AP.run,aS];unfold fT;simp only[hO];have e':gV z.P (mQ z.P z.O k) 0 f args ⟨(h.set n (some .deferred)).set (n+1) (some (.loop .ready none m ps.toList as bd)),n+1+1,[],[]⟩ = .ok v (S0 h' n'):=e;rw[e',aS];unfold wL;simp only[AP.run,show (S0 h' n').heap=h' from rfl,hl,show Nat.blt (n+1) 0=false from rfl,cond_false,aS];rfl
def GZ(P:Program)(O:Over)(l:Nat)(m0:Tm)(as bd:Code)(h:PT aj)(n:Nat)(R:Bool→PT aj→Nat→Prop):Prop:=
 ∃ k b h' n',ga (mQ P O k) 0 l m0 as bd (S0 h n) = .ok (.bool b) (S0 h' n')∧R b h' n'
theorem GZ.mono{P:Program}{O:Over}{l:Nat}{m0:Tm}{as bd:Code}{R R':Bool→PT aj→Nat→Prop}(e:GZ P O l m0 as bd h n R)(hR:∀ b h' n',R b h' n'→R' b h' n'):GZ P O l m0 as bd h n R':=by
 obtain⟨k,b,h',n',e,r⟩:=e;exact⟨k,b,h',n',e,hR _ _ _ r⟩
theorem acv{l:Nat}{m0:Tm}{as bd:Code}{d:Option Nat}{ops r:List Oper}{R:Bool→PT aj→Nat→Prop}(hm:m.n=z.N)(e:GZ z.P z.O l m0 as bd h n R)(hk:∀ b h' n',R b h' n'→jZ z (.pure (.value (.bool b))) d ops r K m h' n'):
  jZ z (.pure (.round l m0 as bd)) d ops r K m h n:=by
 obtain⟨k,b,h',n',e,hR⟩:=e;obtain⟨_,k2,m',h2,n2,e2,q⟩:=hk b h' n' hR;refine⟨hm,max k k2,m',h2,n2,?_,q⟩;simp only[AP.run,aS,fU] at e2 ⊢;rw[Gw (iu (Nat.le_max_left k k2)) e,aS];exact cm (fun _ _ q=>q) (fun a s _ b s' q=>xy (iu (Nat.le_max_right k k2)) r q) e2
def EvR(z:Zx)(l:Nat)(m0:Tm)(as bd:Code)(d:Option Nat)(ops r:List Oper)(K:List KF)(m:Tm)(h:PT aj)(n:Nat):Prop:=jZ z (.pure (.round l m0 as bd)) d ops r K m h n
@[go_sem] theorem aia{l:Nat}{m0:Tm}{as bd:Code}{d:Option Nat}{ops r:List Oper}:jZ z (.pure (.round l m0 as bd)) d ops r K m h n↔EvR z l m0 as bd d ops r K m h n:=Iff.rfl
theorem acw{l:Nat}{m0:Tm}{as bd:Code}{d:Option Nat}{ops r:List Oper}{R:Bool→PT aj→Nat→Prop}(hm:m.n=z.N)(e:GZ z.P z.O l m0 as bd h n R)(hk:∀ b h' n',R b h' n'→jZ z (.pure (.value (.bool b))) d ops r K m h' n'):
  EvR z l m0 as bd d ops r K m h n:=acv hm e hk
theorem acy{P:Program}{O:Over}{l N:Nat}{m0:Tm}{as bd:Code}{R:Bool→PT aj→Nat→Prop}{pe:Option Code}{tm:Tm}{ps:List Tmp}{a b:Code}
  (H:∀ z0:Zx,z0.P=P→z0.O=O→z0.ro=some l→z0.N=N→z0.Q=(fun e m1 h1 n1=>e = .normal∧h1.get l=some (.loop .ready pe tm ps a b)∧
   ∀ z1:Zx,z1.P=P→z1.O=O→z1.ro=some l→z1.N=N→z1.Q=(fun e2 m2 h2 n2=>h2.get l=some (.loop .busy pe tm ps a b)∧R (exitCode e2).isNone (h2.set l (some (.loop (cond (exitCode e2).isNone .ready .done) (exitCode e2) tm ps a b))) n2)→
    iZ z1 bd [] m1 (h1.set l (some (.loop .busy pe tm ps a b))) n1)→iZ z0 as [] m0 h n):GZ P O l m0 as bd h n R:=by
 obtain⟨hn0,k,x,h1,n1,e,_,hx,hl,hb⟩:=H ⟨P,O,some l,N,_⟩ rfl rfl rfl rfl rfl;obtain⟨hn1,k2,y,h2,n2,e2,_,zo,hR⟩:=hb ⟨P,O,some l,N,_⟩ rfl rfl rfl rfl rfl;refine⟨max k k2,(exitCode y.1).isNone,h2.set l (some (.loop (cond (exitCode y.1).isNone .ready .done) (exitCode y.1) tm ps a b)),n2,?_,hR⟩;unfold ga;rw[iu (Nat.le_max_left k k2) _ _ _ _ _ _ _ e,aS];rw[hx];simp only;unfold tP;simp only[AP.run,show (S0 h1 n1).heap=h1 from rfl,hl,show Nat.blt l 0=false from rfl,cond_false,aS];have e2':=iu (Nat.le_max_right k k2) _ _ _ _ _ _ _ e2;have e3:mQ P O (max k k2) (some l) 0 bd x.2 ⟨h1.set l (some (.loop .busy pe tm ps a b)),(S0 h1 n1).next,(S0 h1 n1).rd,(S0 h1 n1).wr⟩ = .ok y (S0 h2 n2):=e2';rw[e3,aS];unfold Bc;simp only[AP.run,show (S0 h2 n2).heap=h2 from rfl,zo,show Nat.blt l 0=false from rfl,cond_false];rfl
variable {P:Program}
def ylB(args:List Value)(l:Nat):aj→AP aG
 | .loop _ _ tm ps as bd=>match iy ps args tm with
  |some m => .pure (.round l (KL m []) as bd)
  |none => .fail "yield arguments"
 | _ => .fail "yield loop"
theorem aan{l:Nat}{cap args:List Value}:j7 P (.yield l) cap args = .get l (ylB args l):=by
 show AP.get l _=AP.get l _
 congr 1
@[go_sem] theorem ae7{l:Nat}{first captured:Array Value}{args:List Value}:Ws P (.func (.yield l) first captured) args = .get l (ylB (first.toList++args) l):=aan (P:=P) (cap:=captured.toList)
def ylR(l:Nat)(as bd:Code):Option Tm→AP aG
 |some m => .pure (.round l (KL m []) as bd)
 |none => .fail "yield arguments"
@[go_sem] theorem ad'{args:List Value}{l:Nat}{st:LoopState}{pe:Option Code}{tm:Tm}{ps:List Tmp}{as bd:Code}:ylB args l (.loop st pe tm ps as bd)=ylR l as bd (iy ps args tm):=by
 show (match iy ps args tm with |some m=>_ |none=>_)=_
 generalize iy ps args tm=o;cases o<;>rfl
@[go_sem] theorem aea{l:Nat}{as bd:Code}{m:Tm}:ylR l as bd (some m) = .pure (.round l (KL m []) as bd):=rfl
theorem aaV{p:Tmp}{v:Value}{tm:Tm}(h:p<tm.n):iy [p] [v] tm=some (up tm p v):=by
 have hb:Nat.blt p tm.n=true:=Nat.ble_eq_true_of_le h;simp only[iy,Tm.put,hb,cond_true,up]
@[go_sem] theorem WL{tm:Tm}:iy [] [] tm=some tm:=rfl
end
end Go.Am
namespace Go.Am
end Go.Am
namespace Go.Am
class Sp (G:Prop) (p q A B:outParam Prop):Prop where
 sp:(p→A)→(q→B)→G
theorem xs{G p q A B:Prop}[s:Sp G p q A B](h1:p→A)(h2:q→B):G:=s.sp h1 h2
section
variable {z:Zx} {K:List KF} {m:Tm} {h:PT aj} {n:Nat} {p:Prop} [Decidable p] {a b:Code} {o:Oper} {ops r:List Oper} {t:Bool} {L:List (Nat×Nat)} {fs:List bO}
instance (priority:=low):Sp (DK z (.bool t) a b K m h n) (t=true) (t=false) (iZ z a K m h n) (iZ z b K m h n):=⟨fun h1 h2=>dH h1 h2⟩
instance:Sp (DK z (.bool !t) a b K m h n) (t=false) (t=true) (iZ z a K m h n) (iZ z b K m h n):=⟨fun h1 h2=>dG h1 h2⟩
instance:Sp (DK z (.bool (decide p)) a b K m h n) p (¬p) (iZ z a K m h n) (iZ z b K m h n):=⟨fun h1 h2=>dF h1 h2⟩
instance (priority:=high):Sp (DK z (.bool (decide (¬p))) a b K m h n) (¬p) p (iZ z a K m h n) (iZ z b K m h n):=⟨fun h1 h2=>dD h1 h2⟩
instance (priority:=low):Sp (lQ z t o ops r K m h n) (t=true) (t=false) (lQ z true o ops r K m h n) (lQ z false o ops r K m h n):=⟨fun h1 h2=>dL h1 h2⟩
instance:Sp (lQ z (!t) o ops r K m h n) (t=false) (t=true) (lQ z true o ops r K m h n) (lQ z false o ops r K m h n):=⟨fun h1 h2=>dK h1 h2⟩
instance:Sp (lQ z (decide p) o ops r K m h n) p (¬p) (lQ z true o ops r K m h n) (lQ z false o ops r K m h n):=⟨fun h1 h2=>dJ h1 h2⟩
instance (priority:=high):Sp (lQ z (decide (¬p)) o ops r K m h n) (¬p) p (lQ z true o ops r K m h n) (lQ z false o ops r K m h n):=⟨fun h1 h2=>dI h1 h2⟩
instance (priority:=low):Sp (lS z L t o ops r K m h n fs) (t=true) (t=false) (lS z L true o ops r K m h n fs) (lS z L false o ops r K m h n fs):=⟨fun h1 h2=>eC h1 h2⟩
instance:Sp (lS z L (!t) o ops r K m h n fs) (t=false) (t=true) (lS z L true o ops r K m h n fs) (lS z L false o ops r K m h n fs):=⟨fun h1 h2=>eB h1 h2⟩
instance:Sp (lS z L (decide p) o ops r K m h n fs) p (¬p) (lS z L true o ops r K m h n fs) (lS z L false o ops r K m h n fs):=⟨fun h1 h2=>eA h1 h2⟩
instance (priority:=high):Sp (lS z L (decide (¬p)) o ops r K m h n fs) (¬p) p (lS z L true o ops r K m h n fs) (lS z L false o ops r K m h n fs):=⟨fun h1 h2=>ez h1 h2⟩
end
class Cl (G:Prop) (z:outParam Zx) (f:outParam FuncId) (args:outParam (List Value)) (m:outParam Tm) (h:outParam (PT aj)) (n:outParam Nat) (R:outParam (Value→PT aj→Nat→Prop)):Prop where
 cl:m.n=z.N→z.O f args=none→cE z.P z.O f args h n R→G
section
variable {z:Zx} {K:List KF} {m:Tm} {h:PT aj} {n:Nat} {f:FuncId} {args:List Value} {d:Option Nat} {ops r:List Oper} {L:List (Nat×Nat)} {lo:Nat} {rd wr:List Nat} {fs:List bO}
instance:Cl (V6 z none f args d ops r K m h n) z f args m h n (fun v h' n'=>jZ z (.pure (.value v)) d ops r K m h' n'):=⟨fun hm hn e=>DW hm hn e fun _ _ _ q=>q⟩
instance:Cl (DQ z L none f args d ops r K m h n lo rd wr fs) z f args m h n (fun v h' n'=>∀ rd' wr':List Nat,lD z L (.pure (.value v)) d ops r K m h' n' lo rd' wr' fs):=⟨fun hm hn e=>by
 obtain⟨k,v,h',n',e,hR⟩:=e;exact Nv hm hn e hR⟩
end
theorem dQ{G:Prop}{z:Zx}{f:FuncId}{args:List Value}{m:Tm}{h:PT aj}{n:Nat}{R R0:Value→PT aj→Nat→Prop}{P:Program}{O:Over}[c:Cl G z f args m h n R](e:cE P O f args h n R0)(hP:z.P=P)(hO:z.O=O)(hm:m.n=z.N)(hn:z.O f args=none)
  (hk:∀ v h' n',R0 v h' n'→R v h' n'):G:=by
 subst hP hO;obtain⟨k,v,h',n',e,q⟩:=e;exact c.cl hm hn ⟨k,v,h',n',e,hk _ _ _ q⟩
theorem jg{G:Prop}{z:Zx}{f:FuncId}{args:List Value}{m:Tm}{h:PT aj}{n:Nat}{R R0:Value→PT aj→Nat→Prop}{P:Program}{O:Over}[c:Cl G z f args m h n R](e:cE P O f args h n R0)(hk:∀ v h' n',R0 v h' n'→R v h' n')(hP:z.P=P:=by simp only[*])(hO:z.O=O:=by simp only[*])(hm:m.n=z.N:=by simp only[go_sem, *])(hn:z.O f args=none:=by simp only[go_sem, *]):G:=dQ e hP hO hm hn hk
theorem bD{P:Program}{f:FuncId}{fn:Func}{c:Code}(hf:P.funcs[f]? = some fn)(hb:fn.body=some c){G:Prop}{z:Zx}{args:List Value}{m:Tm}{h:PT aj}{n:Nat}{R:Value→PT aj→Nat→Prop}[i:Cl G z f args m h n R](hP:z.P=P)(hm:m.n=z.N)(hn:z.O f args=none)
  (H:∀ y:Zx,y.P=P→y.O=z.O→y.ro=none→y.N=args.length+(fn.ntmps-args.length)→y.Q=Fin P fn.results.toList R→iZ y c [] ⟨args.length+(fn.ntmps-args.length),PT.ofList .leaf 0 args,[]⟩ h n):G:=by
 subst hP;exact i.cl hm hn (ay hf hb rfl H)
section
variable {P:Program} {ρ:Operand→Value} {d:Option Tmp} {ty:TypeId} {pos:String} {af:Array Edge} {g:Option (Nat×Bool)}
@[go_sem] theorem TL{r:Operand}{nm:String}{as:Array Operand}{ts:Array TypeId}:(⟨.invoke r nm,as,ts⟩:Call).operands=#[r]++as:=rfl
@[go_sem] theorem Y2{r:Operand}{nm:String}{as:Array Operand}{ts:Array TypeId}:k7 P ρ ⟨d,.call ⟨.invoke r nm,as,ts⟩,ty,pos,af,g⟩=gB P (ρ r) nm (as.toList.map ρ):=rfl
end
theorem dw{z:Zx}{K:List KF}{m:Tm}{h:PT aj}{n:Nat}(nt id:Nat)(L:List (Nat×Nat)){ops:Array Oper}(hm:m.n=nt)(hL:aR (aU [] ops.toList) ops.toList.length=L)(hd:g9 ops.toList L=true)(e:Nn z L ops.toList ops.toList K m h n []):iZ z (.region id ops true) K m h n:=aB hL hd e
abbrev pt(b:Nat):Value := .pointer (some ⟨b,0,none⟩)
abbrev row(L:List Value):Option aj:=some (.cells (PT.ofList .leaf 0 L) false)
abbrev aeb(L:List Value)(ro:Bool):Option aj:=some (.cells (PT.ofList .leaf 0 L) ro)
abbrev I6(n:Int):Value := .int .i64 n
abbrev U6(n:Int):Value := .int .u64 n
abbrev U8(n:Int):Value := .int .u8 n
abbrev iU(l:List Value):Value := .tuple ⟨l⟩
end Go.Am
namespace Go.Am
theorem b8{z:Zx}{K:List KF}{m:Tm}{h:PT aj}{n:Nat}(id:Nat){ops:Array Oper}(e:iZ z (.region id ops true) K m h n):iZ z (.region id ops true) K m h n:=e
abbrev Rl:=Nat×Nat
def upd{α:Type}(f:Rl→α)(r:Rl)(x:α):Rl→α:=fun s=>if s=r then x else f s
theorem aq{α:Type}{f:Rl→α}{r:Rl}{x:α}:upd f r x r=x:=if_pos rfl
theorem bB{α:Type}{f:Rl→α}{r s:Rl}{x:α}(h:s≠r):upd f r x s=f s:=if_neg h
theorem au{α:Type}{f:Rl→α}{a b c d:Nat}{x:α}(h:c≠a):upd f (a,b) x (c,d)=f (c,d):=if_neg fun e=>h (congrArg Prod.fst e)
theorem aK{α:Type}{f:Rl→α}{a b d:Nat}{x:α}(h:d≠b):upd f (a,b) x (a,d)=f (a,d):=if_neg fun e=>h (congrArg Prod.snd e)
theorem gn{α:Type}{f:Rl→α}{r:Rl}{x y:α}:upd (upd f r x) r y=upd f r y:=by funext s;unfold upd;split<;>rfl
theorem Y3{α:Type}{f:Rl→α}{r:Rl}{x:α}(h:f r=x):upd f r x=f:=by
 funext s;unfold upd;split
 ·rename_i e;rw[e,h]
 ·rfl
theorem Ou{α:Type}{f:Rl→α}{r s:Rl}{x y:α}(h:r≠s):upd (upd f r x) s y=upd (upd f s y) r x:=by
 funext t;unfold upd
 by_cases c1:t=s
 ·by_cases c2:t=r
  ·exact absurd (c2.symm.trans c1) h
  ·rw[if_pos c1,if_neg c2,if_pos c1]
 ·rw[if_neg c1];by_cases c2:t=r
  ·rw[if_pos c2,if_pos c2]
  ·rw[if_neg c2,if_neg c2,if_neg c1]
def Df(a b:Nat):Prop:=a≠b
theorem Df.symm{a b:Nat}(h:Df a b):Df b a:=fun e=>h e.symm
@[go_sem] theorem aib{h:PT aj}{i j:Nat}{b:Option aj}(hd:Df i j):(h.set i b).get j=h.get j:=az hd
@[go_sem] theorem aec{h:PT aj}{i j:Nat}{b:Option aj}(hd:Df j i):(h.set i b).get j=h.get j:=az fun e=>hd e.symm
structure St(h:PT aj)(n:Nat)(d:Rl→Nat)(C:Rl→Option aj):Prop where
 get:∀ r B,C r=some B→h.get (d r)=some B
 inj:∀ r s,C r≠none→C s≠none→d r=d s→r=s
 wf:bQ h n
section
variable {h:PT aj} {n:Nat} {d:Rl→Nat} {C:Rl→Option aj}
theorem St.at(S:St h n d C){r:Rl}{B:aj}(e:C r=some B):h.get (d r)=some B:=S.get r B e
theorem St.lt(S:St h n d C){r:Rl}{B:aj}(e:C r=some B):d r<n:=S.wf.lt (S.get r B e)
theorem St.df(S:St h n d C){r s:Rl}{A B:aj}(e:C r=some A)(f:C s=some B)(k:r≠s):Df (d r) (d s):=fun q=>k (S.inj r s (by rw[e];simp) (by rw[f];simp) q)
theorem St.set(S:St h n d C)(r:Rl){i:Nat}{A:aj}(B:aj)(e:C r=some A)(hi:d r=i):St (h.set i (some B)) n d (upd C r (some B)):=by
 subst hi;refine⟨fun s D q=>?_,fun s t q1 q2 q=>?_,S.wf.set (Nat.le_refl _) (S.lt e)⟩
 ·unfold upd at q;split at q
  ·rename_i c;subst c;rw[aI];exact q
  ·rename_i c;rw[az (S.df q e c).symm];exact S.get s D q
 ·refine S.inj s t ?_ ?_ q
  ·unfold upd at q1;split at q1
   ·rename_i c;rw[c,e];simp
   ·exact q1
  ·unfold upd at q2;split at q2
   ·rename_i c;rw[c,e];simp
   ·exact q2
theorem St.kill(S:St h n d C)(r:Rl){i:Nat}{A:aj}(e:C r=some A)(hi:d r=i):St (h.set i none) n d (upd C r none):=by
 subst hi;refine⟨fun s D q=>?_,fun s t q1 q2 q=>?_,S.wf.set (Nat.le_refl _) (S.lt e)⟩
 ·unfold upd at q;split at q
  ·simp at q
  ·rename_i c;rw[az (S.df q e c).symm];exact S.get s D q
 ·refine S.inj s t ?_ ?_ q
  ·unfold upd at q1;split at q1
   ·exact absurd rfl q1
   ·exact q1
  ·unfold upd at q2;split at q2
   ·exact absurd rfl q2
   ·exact q2
theorem St.new(S:St h n d C)(r:Rl){i m:Nat}(B:aj)(hi:n≤i)(hm:i<m):St (h.set i (some B)) m (upd d r i) (upd C r (some B)):=by
 refine⟨fun s D q=>?_,fun s t q1 q2 q=>?_,S.wf.set qJ hm⟩
 ·unfold upd at q ⊢;split at q
  ·rename_i c;rw[if_pos c,aI];exact q
  ·rename_i c;have:=S.lt q;rw[if_neg c,az qJ];exact S.get s D q
 ·unfold upd at q q1 q2;by_cases c1:s=r
  ·by_cases c2:t=r
   ·rw[c1,c2]
   ·rw[if_pos c1,if_neg c2] at q;rw[if_neg c2] at q2;obtain⟨B',hB⟩:=Option.ne_none_iff_exists'.1 q2;have:=S.lt hB;omega
  ·by_cases c2:t=r
   ·rw[if_neg c1,if_pos c2] at q;rw[if_neg c1] at q1;obtain⟨B',hB⟩:=Option.ne_none_iff_exists'.1 q1;have:=S.lt hB;omega
   ·rw[if_neg c1,if_neg c2] at q;rw[if_neg c1] at q1;rw[if_neg c2] at q2;exact S.inj s t q1 q2 q
theorem St.junk(S:St h n d C){i m:Nat}{B:Option aj}(hi:n≤i)(hm:i<m):St (h.set i B) m d C:=by
 refine⟨fun s D q=>?_,S.inj,S.wf.set qJ hm⟩;have:=S.lt q;rw[az qJ];exact S.get s D q
theorem St.mono(S:St h n d C){m:Nat}(hm:n≤m):St h m d C:=⟨S.get,S.inj,S.wf.mono hm⟩
theorem St.drop(S:St h n d C)(r:Rl):St h n d (upd C r none):=by
 refine⟨fun s D q=>?_,fun s t q1 q2 q=>?_,S.wf⟩
 ·unfold upd at q;split at q
  ·simp at q
  ·exact S.get s D q
 ·unfold upd at q1 q2;split at q1
  ·exact absurd rfl q1
  ·split at q2
   ·exact absurd rfl q2
   ·exact S.inj s t q1 q2 q
theorem St.kept(S:St h n d C){h':PT aj}{n':Nat}(k:Kept h h')(w:bQ h' n'):St h' n' d C:=⟨fun r B q=>k _ _ (S.get r B q),S.inj,w⟩
theorem St.eq(S:St h n d C){d':Rl→Nat}{C':Rl→Option aj}(e:C=C')(e2:d=d'):St h n d' C':=by subst e e2;exact S
end
theorem St.one{h:PT aj}{n i:Nat}{B:aj}(r:Rl)(w:bQ h n)(e:h.get i=some B):St h n (fun _=>i) (upd (fun _=>none) r (some B)):=by
 refine⟨fun s D q=>?_,fun s t q1 q2 q=>?_,w⟩
 ·unfold upd at q;split at q
  ·rw[←Option.some.inj q];exact e
  ·simp at q
 ·unfold upd at q1 q2;split at q1
  ·rename_i c;split at q2
   ·rename_i c2;rw[c,c2]
   ·exact absurd rfl q2
  ·exact absurd rfl q1
theorem St.none{h:PT aj}{n:Nat}(d:Rl→Nat)(w:bQ h n):St h n d (fun _=>none):=⟨fun r B q=>by simp at q,fun r s q1=>absurd rfl q1,w⟩
end Go.Am
namespace Go.Am
abbrev cK:=Int×Value×Nat
def ef(k:IntKind)(l:List cK):List (Value×Value×Nat):=l.map fun e=>(.int k e.1,e.2.1,e.2.2)
def bW(x:Int):List cK→Nat→Option (Nat×Value)
 | [],_=>none
 |e::l,i=>if x=e.1 then some (i,e.2.1) else bW x l (i+1)
theorem jI{kk k:IntKind}{x:Int}:∀ (l:List cK) (i:Nat),kJ (.int kk) (.int k x) (ef k l) i=some (bW x l i)
 | [],i=>rfl
 |e::l,i=>by
  have ih:=jI (kk:=kk) (k:=k) (x:=x) l (i+1);unfold ef at*;rw[List.map_cons,kJ,bW];simp only[Instr.sameNow,if_true];by_cases c:x=e.1
  ·rw[if_pos c,show (x==e.1)=true by simpa using c]
  ·rw[if_neg c,show (x==e.1)=false by simpa using c];exact ih
theorem xU{x:Int}:∀ {l:List cK} {i:Nat},(∀ e∈l,e.1≠x)→bW x l i=none
 | [],_,_=>rfl
 |e::l,i,h=>by rw[bW,if_neg (fun c=>h e (by simp) c.symm)];exact xU fun y hy=>h y (by simp[hy])
theorem G0{k:IntKind}(l:List cK)(j:Nat):(ef k l).eraseIdx j=ef k (l.eraseIdx j):=by
 unfold ef
 induction l generalizing j with
 |nil=>rfl
 |cons e l ih=>cases j with
  |zero=>rfl
  |succ j=>simp only[List.map_cons,List.eraseIdx_cons_succ,ih j]
theorem D3{k:IntKind}{x:Int}{v:Value}:∀ (l:List cK) (j:Nat),ia (.int k x) v (ef k l) j=ef k (match l[j]? with |some e=>l.set j (x,v,e.2.2) |none=>l)
 | [],j=>rfl
 |e::l,0=>rfl
 |e::l,j+1=>by
  have ih:=D3 (k:=k) (x:=x) (v:=v) l j;unfold ef at*;simp only[List.map_cons,ia,ih,List.getElem?_cons_succ];cases l[j]? <;> simp
theorem Ap{k:IntKind}{x:Int}{v:Value}{c:Nat}(l:List cK):ef k l++[(.int k x,v,c)]=ef k (l++[(x,v,c)]):=by simp[ef]
section
variable {P:Program} {t kt et:TypeId} {k:IntKind} {r:Nat} {x:Int} {v:Value} {ok:Bool}
theorem lkI(h1:P.underlying t=some (.map kt et))(h2:P.underlying kt=some (.int k)):lkQ P t (.map (some r)) (.int k x) ok = .get r (YZ P (.int k) et (.int k x) ok):=TH h1 h2 rfl
theorem TM{l:List cK}{c:Nat}:YZ P (.int k) et (.int k x) ok (.map (ef k l) c)=Ot P et ok (some (bW x l 0)):=by rw[TI];exact congrArg (Ot P et ok) (jI l 0)
theorem muI(h1:P.underlying t=some (.map kt et))(h2:P.underlying kt=some (.int k)):WK P t (.map (some r)) (.int k x) v = .get r (KK P r (.int k) (.int k x) v):=TJ h1 h2 rfl
theorem TN{l:List cK}{c:Nat}:KK P r (.int k) (.int k x) v (.map (ef k l) c)=Y0 r true (.int k x) v (ef k l) c (some (bW x l 0)):=by rw[TK];exact congrArg (Y0 r true (.int k x) v (ef k l) c) (jI l 0)
def dlB(P:Program)(r:Nat)(kd:TypeDesc)(k:Value):aj→AP aG
 | .map es clk=>match dh P kd k es 0 with
  |some (some (i,_)) => .set r (.map (es.eraseIdx i) clk) (.pure (.value (.tuple ⟨[]⟩)))
  |some none => .pure (.value (.tuple ⟨[]⟩))
  |none => .fail "delete"
 | _ => .fail "delete"
def dlR(r:Nat)(l:List cK)(k:IntKind)(c:Nat):Option (Nat×Value)→AP aG
 |some (i,_) => .set r (.map (ef k (l.eraseIdx i)) c) (.pure (.value (.tuple ⟨[]⟩)))
 |none => .pure (.value (.tuple ⟨[]⟩))
theorem TP{l:List cK}{c:Nat}:dlB P r (.int k) (.int k x) (.map (ef k l) c)=dlR r l k c (bW x l 0):=by
 unfold dlB;simp only;rw[show dh P (.int k) (.int k x) (ef k l) 0=some (bW x l 0) from jI l 0];cases bW x l 0 with
 |none=>rfl
 |some q=>simp only[dlR,G0]
end
end Go.Am
namespace Go.Am
def miQ(u:Option TypeDesc)(t:TypeId)(x:Value):AP aG:=match u with
 |some (.interface _) => .fail "makeInterface"
 |some _ => .pure (.value (.iface t x))
 |none => .fail "makeInterface"
@[go_sem] theorem aie{e t:TypeId}{x:Value}:miQ (some (.pointer e)) t x = .pure (.value (.iface t x)):=rfl
@[go_sem] theorem Y4{fs:Array Field}{t:TypeId}{x:Value}:miQ (some (.struct fs)) t x = .pure (.value (.iface t x)):=rfl
@[go_sem] theorem aif{P:Program}{ρ:Operand→Value}{d:Option Tmp}{ty t:TypeId}{x:Operand}{pos:String}{af:Array Edge}{g:Option (Nat×Bool)}:k7 P ρ ⟨d,.makeInterface t x,ty,pos,af,g⟩=miQ (P.underlying t) t (ρ x):=by
 show (dX P t (ρ x)).bind _=_
 unfold dX miQ;cases P.underlying t with
 |none=>rfl
 |some u=>cases u<;>rfl
section
variable {P:Program} {t:TypeId} {cx cy:Bool}
def TQ(u:Option TypeDesc)(b:Bool):AP aG:=match u with
 |some (.func _ _ _) => .pure (.value (.bool b))
 | _ => .fail "equal"
@[go_sem] theorem aed{ps rs:Array TypeId}{v b:Bool}:TQ (some (.func ps rs v)) b = .pure (.value (.bool b)):=rfl
theorem Iw{f:Fn}{a b:Array Value}(D:Nat):cj P (D+1) t (.func f a b) .nilFunc=match P.underlying t with |some (.func _ _ _) => .pure false | _ => .fail "equal":=by
 unfold cj;cases P.underlying t with
 |none=>rfl
 |some u=>cases u<;>rfl
theorem Iy(D:Nat):cj P (D+1) t .nilFunc .nilFunc=match P.underlying t with |some (.func _ _ _) => .pure true | _ => .fail "equal":=by
 unfold cj;cases P.underlying t with
 |none=>rfl
 |some u=>cases u<;>rfl
@[go_sem] theorem Y5{f:Fn}{a b:Array Value}:dN P .eql t cx cy (.func f a b) .nilFunc=TQ (P.underlying t) false:=by
 have q:dN P .eql t cx cy (.func f a b) .nilFunc=AP.bind ((cj P (11+1) t (.func f a b) .nilFunc).bind fun b => .pure (.bool b)) fun v => .pure (.value v):=by simp only[dN,eE,b9,cond_true]
 rw[q,Iw];unfold TQ;cases P.underlying t with
 |none=>rfl
 |some u=>cases u<;>rfl
@[go_sem] theorem Y6{f:Fn}{a b:Array Value}:dN P .neq t cx cy (.func f a b) .nilFunc=TQ (P.underlying t) true:=by
 have q:dN P .neq t cx cy (.func f a b) .nilFunc=AP.bind ((cj P (11+1) t (.func f a b) .nilFunc).bind fun b => .pure (.bool !b)) fun v => .pure (.value v):=by simp only[dN,eE,b9,cond_true]
 rw[q,Iw];unfold TQ;cases P.underlying t with
 |none=>rfl
 |some u=>cases u<;>rfl
@[go_sem] theorem Y7:dN P .eql t cx cy .nilFunc .nilFunc=TQ (P.underlying t) true:=by
 have q:dN P .eql t cx cy .nilFunc .nilFunc=AP.bind ((cj P (11+1) t .nilFunc .nilFunc).bind fun b => .pure (.bool b)) fun v => .pure (.value v):=by simp only[dN,eE,b9,cond_true]
 rw[q,Iy];unfold TQ;cases P.underlying t with
 |none=>rfl
 |some u=>cases u<;>rfl
@[go_sem] theorem Y8:dN P .neq t cx cy .nilFunc .nilFunc=TQ (P.underlying t) false:=by
 have q:dN P .neq t cx cy .nilFunc .nilFunc=AP.bind ((cj P (11+1) t .nilFunc .nilFunc).bind fun b => .pure (.bool !b)) fun v => .pure (.value v):=by simp only[dN,eE,b9,cond_true]
 rw[q,Iy];unfold TQ;cases P.underlying t with
 |none=>rfl
 |some u=>cases u<;>rfl
end
@[go_sem] theorem Y9{P:Program}{ρ:Operand→Value}{d:Option Tmp}{ty t:TypeId}{x i v:Operand}{pos:String}{af:Array Edge}{g:Option (Nat×Bool)}:k7 P ρ ⟨d,.insert t x i v,ty,pos,af,g⟩=WK P t (ρ x) (ρ i) (ρ v):=rfl
theorem G1{α:Type}{h0 h:PT aj}{n0:Nat}(hk:Kept h0 h)(hw:bQ h0 n0):∀ {p:AP α} {a:α} {rd:List Nat},p.look h0=some a→(∀ x∈rd,x<n0)→∀ x∈p.ids h rd,x<n0
 | .pure b,a,rd,_,hr=>hr
 | .fail w,a,rd,e,_=>by simp[AP.look] at e
 | .set ..,a,rd,e,_=>by simp[AP.look] at e
 | .kill ..,a,rd,e,_=>by simp[AP.look] at e
 | .new ..,a,rd,e,_=>by simp[AP.look] at e
 | .get id k,a,rd,e,hr=>by
  simp only[AP.look] at e;cases hb:h0.get id with
  |none=>rw[hb] at e;simp at e
  |some b=>
   rw[hb] at e;simp only[AP.ids,hk _ _ hb];exact G1 hk hw e fun x hx=>by
    rcases List.mem_cons.1 hx with rfl |hx
    ·exact hw.lt hb
    ·exact hr x hx
theorem kP{α:Type}{p:AP α}{a:α}{h0 h:PT aj}{n0 lo hi:Nat}(hs:p.look h0=some a)(hw:bQ h0 n0)(hk:Kept h0 h)(hl:n0≤lo):bR (p.ids h []) lo hi=false:=by
 unfold bR;rw[List.any_eq_false];intro x hx;have:=G1 hk hw hs (rd:=[]) (by simp) x hx;simp[fZ (show x<lo by omega)]
theorem G2{α:Type}{p:AP α}{a:α}{h0 h:PT aj}{n0:Nat}{ws:List Nat}(hs:p.look h0=some a)(hw:bQ h0 n0)(hk:Kept h0 h)(hl:ws.all (fun x=>decide (n0≤x))=true):meets (p.ids h []) ws=false:=by
 unfold meets;rw[List.any_eq_false];intro x hx;have:=G1 hk hw hs (rd:=[]) (by simp) x hx;rw[Bool.not_eq_true,List.any_eq_false];intro y hy;have hy:=of_decide_eq_true (List.all_eq_true.1 hl y hy);intro c;have:=Nat.eq_of_beq_eq_true c;omega
theorem St.xV{h:PT aj}{n:Nat}{d:Rl→Nat}{C:Rl→Option aj}(S:St h n d C){i m:Nat}{A B:Option aj}(hi:n≤i)(hm:i<m):St ((h.set i A).set i B) m d C:=by
 refine⟨fun s D q=>?_,S.inj,(S.wf.set qJ hm).set (Nat.le_refl _) hm⟩;have:=S.lt q;rw[az qJ,az qJ];exact S.get s D q
end Go.Am
namespace Go.Am
structure Bg(D:Nat→Prop)(g:Nat→Option aj)(n0:Nat)(h1 h:PT aj):Prop where
 on:∀ i,(D i∨n0≤i)→h.get i=h1.get i
 off:∀ i,¬(D i∨n0≤i)→h1.get i=none∧h.get i=g i
section
variable {D:Nat→Prop} {g:Nat→Option aj} {n0:Nat}
theorem Bg.has{h1 h:PT aj}(b:Bg D g n0 h1 h){i:Nat}{B:aj}(e:h1.get i=some B):(D i∨n0≤i)∧h.get i=some B:=by
 by_cases c:D i∨n0≤i
 ·exact⟨c,(b.on i c).trans e⟩
 ·have:=(b.off i c).1;rw[e] at this;simp at this
theorem Bg.set{h1 h:PT aj}(b:Bg D g n0 h1 h){i:Nat}(B:Option aj)(c:D i∨n0≤i):Bg D g n0 (h1.set i B) (h.set i B):=by
 refine⟨fun j hj=>?_,fun j hj=>?_⟩
 ·by_cases e:j=i
  ·subst e;rw[aI,aI]
  ·rw[az fun q=>e q.symm,az fun q=>e q.symm];exact b.on j hj
 ·have e:j≠i:=fun q=>hj (q ▸ c);rw[az fun q=>e q.symm,az fun q=>e q.symm];exact b.off j hj
def FM(D:Nat→Prop)(g:Nat→Option aj)(n0:Nat)(e:Prop){α:Type}(F0 F:HS→aO α):Prop:=∀ h1 n mU lR a s,n0≤n→F0 ⟨h1,n,mU,lR⟩ = .ok a s→∀ h,Bg D g n0 h1 h→∀ rd wr,∃ rd' wr' h',F ⟨h,n,rd,wr⟩ = .ok a ⟨h',s.next,rd',wr'⟩∧Bg D g n0 s.heap h'∧n≤s.next∧
 (e→Sub rd mU→Sub rd' s.rd)∧(e→Sub wr lR→Sub wr' s.wr)∧(∀ x∈rd',x∈rd∨D x∨n0≤x)∧(∀ x∈wr',x∈wr∨D x∨n0≤x)
theorem FM.bP{e:Prop}{α β:Type}{F0 F:HS→aO α}{k0 k:α→HS→aO β}(hF:FM D g n0 e F0 F)(hk:∀ a,FM D g n0 e (k0 a) (k a)):FM D g n0 e (fun s=>bP (F0 s) k0) (fun s=>bP (F s) k):=by
 intro h1 n mU lR b s hn q h hb rd wr;obtain⟨a,s₁,q1,q2⟩:=bE q;obtain⟨rd',wr',h',u,b1,l1,u1,u2,u3,u4⟩:=hF h1 n mU lR a s₁ hn q1 h hb rd wr;obtain⟨RB,RC,h2,v,b2,l2,v1,v2,v3,v4⟩:=hk a s₁.heap s₁.next s₁.rd s₁.wr b s qJ q2 h' b1 rd' wr';refine⟨RB,RC,h2,by show Go.Am.bP _ _=_;rw[u,aS];exact v,b2,by omega,fun c c1=>v1 c (u1 c c1),fun c c1=>v2 c (u2 c c1),fun x hx=>?_,fun x hx=>?_⟩
 ·rcases v3 x hx with q |q
  ·exact u3 x q
  ·exact .inr q
 ·rcases v4 x hx with q |q
  ·exact u4 x q
  ·exact .inr q
theorem FM.ok{e:Prop}{α:Type}(a:α):FM D g n0 e (fun s => .ok a s) (fun s => .ok a s):=fun h1 n mU lR b s hn q h hb rd wr=>by
 simp only[aO.ok.injEq] at q;obtain⟨rfl,rfl⟩:=q;exact⟨rd,wr,h,rfl,hb,Nat.le_refl _,fun _ c=>c,fun _ c=>c,fun _ c => .inl c,fun _ c => .inl c⟩
theorem FM.fail{e:Prop}{α:Type}(w:String)(F:HS→aO α):FM D g n0 e (fun _=>(.fail w:aO α)) F:=fun h1 n mU lR b s hn q h hb rd wr=>by simp at q
theorem uf{lim id x:Nat}{l:List Nat}(h:x∈cond (Nat.blt id lim) (ins id l) l):x=id∨x∈l:=by
 cases hl:Nat.blt id lim with
 |true=>rw[hl] at h;exact gQ.1 h
 |false=>rw[hl] at h;exact .inr h
theorem FM.ap{α:Type}(aX lim:Nat):∀ (p:AP α),FM D g n0 (aX=lim) (fun s=>p.run aX s) (fun s=>p.run lim s)
 | .pure a=>FM.ok a
 | .fail w=>fun h1 n mU lR b s hn q h hb rd wr=>by simp[AP.run] at q
 | .get id k=>fun h1 n mU lR b s hn q h hb rd wr=>by
  simp only[AP.run] at q ⊢;cases e:h1.get id with
  |none=>rw[e] at q;simp at q
  |some B=>
   obtain⟨c,e2⟩:=hb.has e;rw[e] at q;rw[e2];simp only at q ⊢;have q':(k B).run aX ⟨h1,n,cond (Nat.blt id aX) (ins id mU) mU,lR⟩ = .ok b s:=by
    cases hl:Nat.blt id aX<;>simp only[hl,cond_true,cond_false] at q ⊢<;>exact q
   obtain⟨rd',wr',h',u,b1,l1,u1,u2,u3,u4⟩:=FM.ap aX lim (k B) h1 n _ _ b s hn q' h hb (cond (Nat.blt id lim) (ins id rd) rd) wr;refine⟨rd',wr',h',?_,b1,l1,fun c c1=>u1 c (by subst c;exact qc c1),u2,fun x hx=>?_,u4⟩
   ·cases hl:Nat.blt id lim<;>simp only[hl,cond_true,cond_false] at u ⊢<;>exact u
   ·rcases u3 x hx with q |q
    ·rcases uf q with rfl |q
     ·exact .inr c
     ·exact .inl q
    ·exact .inr q
 | .set id B k=>fun h1 n mU lR b s hn q h hb rd wr=>by
  simp only[AP.run] at q ⊢;cases e:h1.get id with
  |none=>rw[e] at q;simp at q
  |some B'=>
   obtain⟨c,e2⟩:=hb.has e;rw[e] at q;rw[e2];simp only at q ⊢;have q':k.run aX ⟨h1.set id (some B),n,mU,cond (Nat.blt id aX) (ins id lR) lR⟩ = .ok b s:=by
    cases hl:Nat.blt id aX<;>simp only[hl,cond_true,cond_false] at q ⊢<;>exact q
   obtain⟨rd',wr',h',u,b1,l1,u1,u2,u3,u4⟩:=FM.ap aX lim k _ n _ _ b s hn q' _ (hb.set (some B) c) rd (cond (Nat.blt id lim) (ins id wr) wr);refine⟨rd',wr',h',?_,b1,l1,u1,fun c c1=>u2 c (by subst c;exact qc c1),u3,fun x hx=>?_⟩
   ·cases hl:Nat.blt id lim<;>simp only[hl,cond_true,cond_false] at u ⊢<;>exact u
   ·rcases u4 x hx with q |q
    ·rcases uf q with rfl |q
     ·exact .inr c
     ·exact .inl q
    ·exact .inr q
 | .kill id k=>fun h1 n mU lR b s hn q h hb rd wr=>by
  simp only[AP.run] at q ⊢;cases e:h1.get id with
  |none=>rw[e] at q;simp at q
  |some B'=>
   obtain⟨c,e2⟩:=hb.has e;rw[e] at q;rw[e2];simp only at q ⊢;have q':k.run aX ⟨h1.set id none,n,mU,cond (Nat.blt id aX) (ins id lR) lR⟩ = .ok b s:=by
    cases hl:Nat.blt id aX<;>simp only[hl,cond_true,cond_false] at q ⊢<;>exact q
   obtain⟨rd',wr',h',u,b1,l1,u1,u2,u3,u4⟩:=FM.ap aX lim k _ n _ _ b s hn q' _ (hb.set none c) rd (cond (Nat.blt id lim) (ins id wr) wr);refine⟨rd',wr',h',?_,b1,l1,u1,fun c c1=>u2 c (by subst c;exact qc c1),u3,fun x hx=>?_⟩
   ·cases hl:Nat.blt id lim<;>simp only[hl,cond_true,cond_false] at u ⊢<;>exact u
   ·rcases u4 x hx with q |q
    ·rcases uf q with rfl |q
     ·exact .inr c
     ·exact .inl q
    ·exact .inr q
 | .new B k=>fun h1 n mU lR b s hn q h hb rd wr=>by
  simp only[AP.run] at q ⊢;obtain⟨rd',wr',h',u,b1,l1,u1⟩:=FM.ap aX lim (k n) (h1.set n (some B)) (n+1) _ _ b s qJ q _ (hb.set (some B) (.inr hn)) rd wr;exact⟨rd',wr',h',u,b1,by omega,u1⟩
end
section
variable {D:Nat→Prop} {g:Nat→Option aj} {n0:Nat} {P:Program} {O:Over}
def L7(D:Nat→Prop)(g:Nat→Option aj)(n0:Nat)(ev:iL):Prop:=∀ aX lim ro c m,FM D g n0 (aX=lim) (fun s=>ev ro aX c m s) (fun s=>ev ro lim c m s)
variable {ev:iL}
theorem rA{aX lim:Nat}:∀ l,FM D g n0 (aX=lim) (fB aX l) (fB lim l)
 | [] => .ok _
 |d::r=>(FM.ap aX lim (pX d)).bP fun _=>rA r
theorem nO{aX lim:Nat}(m:Tm):∀ l,FM D g n0 (aX=lim) (cD P aX m l) (cD P lim m l)
 | [] => .ok _
 | .tmp t::r=>(nO m r).bP fun l => .ok (m.get t::l)
 | .cell a t::r=>(FM.ap aX lim (fG P t (m.get a))).bP fun v=>(nO m r).bP fun l => .ok (v::l)
theorem Oy{aX lim:Nat}(rs:List ResultVar)(x:bp×Tm):FM D g n0 (aX=lim) (iH P aX rs x) (iH P lim rs x):=by
 unfold iH;cases x.1 with
 |exit id=>exact .fail _ _
 |normal=>exact(rA _).bP fun _=>(nO _ _).bP fun _ => .ok _
 |ret=>exact(rA _).bP fun _=>(nO _ _).bP fun _ => .ok _
theorem BO{aX lim:Nat}(h:L7 D g n0 ev)(f:FuncId)(args:List Value):FM D g n0 (aX=lim) (gV P ev aX f args) (gV P ev lim f args):=by
 unfold gV;cases P.funcs[f]? with
 |none=>exact .fail _ _
 |some fn=>
  simp only;cases fn.body with
  |none=>exact .fail _ _
  |some c=>exact(h _ _ _ _ _).bP fun _=>Oy _ _
theorem Iz{aX lim:Nat}(h:L7 D g n0 ev)(f:FuncId)(args:List Value):FM D g n0 (aX=lim) (fT P O ev aX f args) (fT P O ev lim f args):=by
 unfold fT;cases O f args with
 |none=>exact BO h f args
 |some m=>exact FM.ap _ _ m
theorem Oz{aX lim:Nat}(h:L7 D g n0 ev)(l:Nat)(m:Tm)(as bd:Code):FM D g n0 (aX=lim) (ga ev aX l m as bd) (ga ev lim l m as bd):=by
 unfold ga;refine(h _ _ _ _ _).bP fun x=>?_;cases x.1 with
 |normal=>exact(FM.ap _ _ _).bP fun _=>(h _ _ _ _ _).bP fun _=>FM.ap _ _ _
 |exit i=>exact .fail _ _
 |ret=>exact .fail _ _
theorem TV{aX lim:Nat}(h:L7 D g n0 ev)(x:aG):FM D g n0 (aX=lim) (fU P O ev aX x) (fU P O ev lim x):=by
 cases x with
 |value v=>exact .ok _
 |skip=>exact .ok _
 |enter f args=>exact Iz h f args
 |round l m as bd=>exact Oz h l m as bd
theorem Y_(m:Tm)(d:Option Nat)(v:Value){e:Prop}:FM D g n0 e (jt m d v) (jt m d v):=by
 unfold jt;cases m.put d v with
 |none=>exact .fail _ _
 |some m=>exact .ok _
theorem WM{aX lim:Nat}(h:L7 D g n0 ev)(ops:List Oper)(o:Oper)(m:Tm):FM D g n0 (aX=lim) (lW P O ev aX ops o m) (lW P O ev lim ops o m):=by
 unfold lW;refine FM.bP ?_ fun v=>Y_ m _ v;cases b_ ops m o with
 |false=>exact .ok _
 |true=>
  show FM _ _ _ _ (jr P O ev aX m.eval o) (jr P O ev lim m.eval o)
  unfold jr;cases o.op.operands.toList.all bz with
  |false=>exact .fail _ _
  |true=>exact(FM.ap _ _ _).bP fun x=>TV h x
theorem OA{aX lim:Nat}(h:L7 D g n0 ev)(ops:List Oper):∀ (r:List Oper) (m:Tm),FM D g n0 (aX=lim) (jl P O ev aX ops r m) (jl P O ev lim ops r m)
 | [],m => .ok _
 |o::r,m=>(WM h ops o m).bP fun m=>OA h ops r m
def Za(D:Nat→Prop)(n0:Nat)(fs:List bO):Prop:=∀ f∈fs,(∀ x∈f.rd,D x∨n0≤x)∧(∀ x∈f.wr,D x∨n0≤x)
theorem IA(h:L7 D g n0 ev)(ops:List Oper):∀ (r:List Oper) (m:Tm) (h1:PT aj) (n:Nat) (x:Tm×List bO) (s:HS),n0≤n→g8 P O ev ops r m h1 n = .ok x s→∀ h2,Bg D g n0 h1 h2→
  ∃ fs' h',g8 P O ev ops r m h2 n = .ok (x.1,fs') ⟨h',s.next,[],[]⟩∧Bg D g n0 s.heap h'∧n≤s.next∧i_ fs' x.2∧Za D n0 fs'
 | [],m,h1,n,x,s,hn,q,h2,hb=>by
  simp only[g8,aO.ok.injEq] at q;obtain⟨rfl,rfl⟩:=q;exact⟨[],h2,rfl,hb,Nat.le_refl _,.nil,fun f hf=>by simp at hf⟩
 |o::r,m,h1,n,x,s,hn,q,h2,hb=>by
  rw[g8] at q;obtain⟨m1,s1,q1,q2⟩:=bE q;obtain⟨y,s2,q3,q4⟩:=bE q2;simp only[aO.ok.injEq] at q4;obtain⟨rfl,rfl⟩:=q4;obtain⟨rd',wr',h',u,b1,l1,u1,u2,u3,u4⟩:=WM (aX:=n) (lim:=n) h ops o m h1 n [] [] m1 s1 hn q1 h2 hb [] [];obtain⟨fs',h3,v,b2,l2,v1,v2⟩:=IA h ops r m1 s1.heap s1.next y s2 qJ q3 h' b1;refine⟨⟨n,s1.next,rd',wr'⟩::fs',h3,?_,b2,by omega,.cons _ _ _ _ ⟨rfl,rfl,u1 rfl (Sub.refl _),u2 rfl (Sub.refl _)⟩ v1,fun f hf=>?_⟩
  ·rw[g8,u,aS];simp only;rw[v,aS]
  ·rcases List.mem_cons.1 hf with rfl |hf
   ·exact⟨fun x hx=>(u3 x hx).resolve_left (by simp),fun x hx=>(u4 x hx).resolve_left (by simp)⟩
   ·exact v2 f hf
theorem ug{lim:Nat}:∀ (fs:List bO) (s:HS) (x:Nat),(x∈(aT lim fs s).rd→x∈s.rd∨∃ f∈fs,x∈f.rd)∧(x∈(aT lim fs s).wr→x∈s.wr∨∃ f∈fs,x∈f.wr)
 | [],s,x=>⟨.inl,.inl⟩
 |f::fs,s,x=>by
  have:=ug (lim:=lim) fs { s with rd:=below lim f.rd s.rd,wr:=below lim f.wr s.wr } x;refine⟨fun h=>?_,fun h=>?_⟩
  ·rcases this.1 h with q | ⟨f',q,q2⟩
   ·rcases(gR _ _ _).1 q with q |q
    ·exact .inr ⟨f,by simp,q.1⟩
    ·exact .inl q
   ·exact .inr ⟨f',by simp[q],q2⟩
  ·rcases this.2 h with q | ⟨f',q,q2⟩
   ·rcases(gR _ _ _).1 q with q |q
    ·exact .inr ⟨f,by simp,q.1⟩
    ·exact .inl q
   ·exact .inr ⟨f',by simp[q],q2⟩
theorem xY{lim:Nat}{l l' a b:List Nat}(h:Sub a b)(k:Sub l l'):Sub (below lim l a) (below lim l' b):=fun x hx=>(gR l' b x).2 (((gR l a x).1 hx).imp (fun c=>⟨k x c.1,c.2⟩) (h x))
theorem nP{lim:Nat}:∀ {fs gs:List bO},i_ fs gs→∀ (s s':HS),(Sub s.rd s'.rd→Sub (aT lim fs s).rd (aT lim gs s').rd)∧(Sub s.wr s'.wr→Sub (aT lim fs s).wr (aT lim gs s').wr)
 | _,_,.nil,s,s'=>⟨fun h=>h,fun h=>h⟩
 | _,_,.cons f g' l l' h t,s,s'=>⟨fun q=>(nP t _ _).1 (xY q h.rd),fun q=>(nP t _ _).2 (xY q h.wr)⟩
theorem TW{aX lim:Nat}(h:L7 D g n0 ev)(ops:List Oper)(m:Tm):FM D g n0 (aX=lim) (fJ P O ev aX ops m) (fJ P O ev lim ops m):=by
 intro h1 n mU lR a s hn e h2 hb rd wr;unfold fJ at e ⊢;cases hd:g9 ops (aR (aU [] ops) ops.length) with
 |false=>rw[hd] at e;simp at e
 |true=>
  rw[hd] at e;simp only[cond_true] at e ⊢;obtain⟨x,s₁,e₁,e₂⟩:=bE e;have zY:g8 P O ev ops ops m h1 n = .ok x s₁:=e₁;cases hf:dc x.2 (aR (aU [] ops) ops.length) with
  |false=>rw[hf] at e₂;simp at e₂
  |true=>
   rw[hf] at e₂;simp only[cond_true,aO.ok.injEq] at e₂;obtain⟨rfl,e₂⟩:=e₂;obtain⟨fs',h',u,b1,l1,v1,v2⟩:=IA h ops ops m h1 n x s₁ hn zY h2 hb;rw[show g8 P O ev ops ops m (⟨h2,n,rd,wr⟩:HS).heap (⟨h2,n,rd,wr⟩:HS).next=_ from u,aS];simp only[uV v1 hf,cond_true];have hh:∀ l (fs:List bO) (r w:List Nat) (H:PT aj),(cond (Nat.beq l 0) (⟨H,s₁.next,r,w⟩:HS) (aT l fs ⟨H,s₁.next,r,w⟩)).heap=H∧(cond (Nat.beq l 0) (⟨H,s₁.next,r,w⟩:HS) (aT l fs ⟨H,s₁.next,r,w⟩)).next=s₁.next:=fun l fs r w H=>by
    cases Nat.beq l 0 with
    |true=>exact⟨rfl,rfl⟩
    |false=>exact xC fs ⟨H,s₁.next,r,w⟩
   have q1:=hh lim fs' rd wr h';have q0:=hh aX x.2 mU lR s₁.heap;rw[e₂] at q0;have eta:∀ X:HS,X.heap=h'→X.next=s₁.next→X=⟨h',s.next,X.rd,X.wr⟩:=fun X a b=>by rw[q0.2,←a,←b]
   refine⟨_,_,h',congrArg (aO.ok x.1) (eta _ q1.1 q1.2),by rw[q0.1];exact b1,by rw[q0.2];exact l1,fun c c1=>?_,fun c c1=>?_,fun y hy=>?_,fun y hy=>?_⟩
   ·subst c;rw[←e₂];cases hl:Nat.beq aX 0 with
    |true=>exact c1
    |false=>exact(nP v1 ⟨h',s₁.next,rd,wr⟩ ⟨s₁.heap,s₁.next,mU,lR⟩).1 c1
   ·subst c;rw[←e₂];cases hl:Nat.beq aX 0 with
    |true=>exact c1
    |false=>exact(nP v1 ⟨h',s₁.next,rd,wr⟩ ⟨s₁.heap,s₁.next,mU,lR⟩).2 c1
   ·cases hl:Nat.beq lim 0 with
    |true=>rw[hl] at hy;exact .inl hy
    |false=>
     rw[hl] at hy
     rcases(ug fs' _ y).1 hy with q | ⟨f,q,q2⟩
     ·exact .inl q
     ·exact .inr ((v2 f q).1 y q2)
   ·cases hl:Nat.beq lim 0 with
    |true=>rw[hl] at hy;exact .inl hy
    |false=>
     rw[hl] at hy
     rcases(ug fs' _ y).2 hy with q | ⟨f,q,q2⟩
     ·exact .inl q
     ·exact .inr ((v2 f q).2 y q2)
theorem OC{aX lim:Nat}(h:L7 D g n0 ev)(ro:Option Nat)(gg:Operand)(ps:List Tmp)(as bd:Code)(m:Tm):FM D g n0 (aX=lim) (fL P O ev ro aX gg ps as bd m) (fL P O ev ro lim gg ps as bd m):=by
 unfold fL;cases bz gg with
 |false=>exact .fail _ _
 |true=>exact(FM.ap _ _ _).bP fun ld=>(FM.ap _ _ _).bP fun fa=>(Iz h _ _).bP fun _=>(FM.ap _ _ _).bP fun _ => .ok _
theorem TX(h:L7 D g n0 ev):L7 D g n0 (br P O ev):=by
 intro aX lim ro c m;cases c with
 |skip=>exact .ok _
 |label l=>exact .ok _
 |region id ops draw=>
  simp only[br];refine FM.bP ?_ fun _ => .ok _;cases draw with
  |true=>exact TW h _ _
  |false=>exact OA h _ _ _
 |seq a b=>
  simp only[br];refine(h _ _ _ _ _).bP fun x=>?_;cases x.1 with
  |normal=>exact h _ _ _ _ _
  |exit i=>exact .ok _
  |ret=>exact .ok _
 |cond c a b=>
  simp only[br];cases bz c with
  |false=>exact .fail _ _
  |true=>
   simp only[cond_true];generalize m.eval c=z;cases z with
   |bool t=>cases t<;>exact h _ _ _ _ _
   | _=>exact .fail _ _
 |block id c=>
  simp only[br];refine(h _ _ _ _ _).bP fun x=>?_;cases x.1<;>exact .ok _
 |loop c=>
  simp only[br];refine(h _ _ _ _ _).bP fun x=>?_;cases x.1 with
  |normal=>exact h _ _ _ _ _
  |exit i=>exact .ok _
  |ret=>exact .ok _
 |exit id=>exact .ok _
 |scope c=>exact h _ _ _ _ _
 |ret=>exact .ok _
 |rangeFunc g ps as bd=>exact OC h _ _ _ _ _ _
 |goto l=>exact .fail _ _
 |refuse w=>exact .fail _ _
theorem G4:∀ k,L7 D g n0 (mQ P O k)
 |0=>fun aX lim ro c m => .fail _ _
 |k+1=>TX (G4 k)
end
section
variable {z:Zx} {K:List KF} {m:Tm} {h:PT aj} {n:Nat} {D:Nat→Prop} {g:Nat→Option aj}
theorem OD{L:List (Nat×Nat)}{d:Option Nat}{ops r:List Oper}{lo:Nat}{rd wr:List Nat}{fs:List bO}{f:FuncId}{args:List Value}{h1:PT aj}{R:Value→PT aj→Nat→Prop}(hm:m.n=z.N)(hO:z.O f args=none)(b:Bg D g n h1 h)(e:cE z.P z.O f args h1 n R)
  (hk:∀ v h1' n' h',R v h1' n'→n≤n'→Bg D g n h1' h'→∀ rd' wr',(∀ x∈rd',x∈rd∨D x∨n≤x)→(∀ x∈wr',x∈wr∨D x∨n≤x)→lD z L (.pure (.value v)) d ops r K m h' n' lo rd' wr' fs):
  lD z L (.pure (.enter f args)) d ops r K m h n lo rd wr fs:=by
 obtain⟨k,v,h1',n',e,hR⟩:=e;obtain⟨rd',wr',h',u,b1,l1,-,-,u3,u4⟩:=BO (aX:=0) (lim:=lo) (G4 k) f args h1 n [] [] v (S0 h1' n') (Nat.le_refl _) e h b rd wr;obtain⟨_,k2,m',fs',h2,n2,e2,q⟩:=hk v h1' n' h' hR l1 b1 rd' wr' u3 u4;refine⟨hm,max k k2,m',fs',h2,n2,?_,q⟩;simp only[AP.note,aS,oc,hO] at e2 ⊢;rw[mC (iu (Nat.le_max_left k k2)) u,aS];exact cm (fun _ _ q=>q) (fun a s _ b s' q=>tZ (iu (Nat.le_max_right k k2)) r q) e2
end
end Go.Am
