/-
  A part of the proof: contracts of inner functions.
-/
import Derived.Test.YtbceiadaihphaaaGreatAmU5
import Derived.Test.YtbceiadaihphaaaGreatAmU6
import Derived.Test.YtbceiadaihphaaaGreatAmY3
import Derived.Test.YtbceiadaihphaaaGreatAmY4
set_option linter.unusedSimpArgs false
set_option linter.unusedVariables false
namespace Go.Am
open Go.RowKit
end Go.Am
namespace Go.Am
section
variable {P:Program} {ρ:Operand→Value} {d:Option Tmp} {ty:TypeId} {pos:String} {af:Array Edge} {g:Option (Nat×Bool)}
@[go_sem] theorem J8 {t:TypeId}:jA P ρ ⟨d,.makeMap t none,ty,pos,af,g⟩ = .new (.map [] 0) fun id => .pure (.value (.map (some id))):=rfl
def Oz (P:Program) (t:TypeId) (x k:Value) (ok:Bool):AP aJ:=(om P t x k ok).bind fun v => .pure (.value v)
@[go_sem] theorem LI {t:TypeId} {x i:Operand} {ok:Bool}:jA P ρ ⟨d,.lookup t x i ok,ty,pos,af,g⟩=Oz P t (ρ x) (ρ i) ok:=rfl
def LJ (P:Program) (t:TypeId) (x k v:Value):AP aJ:=(iQ P t x k v).bind fun _ => .pure .skip
@[go_sem] theorem Gk {t:TypeId} {x i v:Operand}:jA P ρ ⟨d,.mapUpdate t x i v,ty,pos,af,g⟩=LJ P t (ρ x) (ρ i) (ρ v):=rfl
def EO (P:Program) (et:TypeId) (ok:Bool):Option (Option (Nat×Value))→AP aJ
 |some (some (_,v)) => .pure (.value (cond ok (.tuple ⟨[v,.bool true]⟩) v))
 |some none=>match zeroOf P et with
  |some z => .pure (.value (cond ok (.tuple ⟨[z,.bool false]⟩) z))
  |none => .fail "lookup"
 |none => .fail "lookup"
def LK (P:Program) (kd:TypeDesc) (et:TypeId) (k:Value) (ok:Bool):aj→AP aJ
 | .map es _=>EO P et ok (cA P kd k es 0)
 | _ => .fail "map block"
theorem HV {t kt et:TypeId} {kd:TypeDesc} {r:Nat} {k:Value} {ok:Bool} (h1:P.underlying t=some (.map kt et)) (h2:P.underlying kt=some kd) (h3:jE P kt kd k=true):Oz P t (.map (some r)) k ok = .get r (LK P kd et k ok):=by
 unfold Oz om mC
 simp only[h1,h2,h3,cond_true,AP.bind]
 congr 1
 funext b
 cases b with
 |map es c=>
  simp only[AP.bind,LK]
  unfold EO
  cases cA P kd k es 0 with
  |none=>rfl
  |some q=>
   cases q with
   |none=>simp only;cases zeroOf P et<;>rfl
   |some p=>rfl
 | _=>rfl
theorem HW {kd:TypeDesc} {et:TypeId} {k:Value} {ok:Bool} {es:List (Value×Value×Nat)} {c:Nat}:LK P kd et k ok (.map es c)=EO P et ok (cA P kd k es 0):=rfl
def HX (r:Nat) (simple:Bool) (k v:Value) (es:List (Value×Value×Nat)) (clk:Nat):Option (Option (Nat×Value))→AP aJ
 |some (some (i,_))=>cond simple (.set r (.map (jF k v es i) clk) (.pure .skip)) (.fail "mapUpdate")
 |some none => .set r (.map (es++[(k,v,clk)]) (clk+1)) (.pure .skip)
 |none => .fail "mapUpdate"
def Gl (P:Program) (r:Nat) (kd:TypeDesc) (k v:Value):aj→AP aJ
 | .map es clk=>HX r (simpleKey kd) k v es clk (cA P kd k es 0)
 | _ => .fail "mapUpdate"
theorem HY {t kt et:TypeId} {kd:TypeDesc} {r:Nat} {k v:Value} (h1:P.underlying t=some (.map kt et)) (h2:P.underlying kt=some kd) (h3:jE P kt kd k=true):LJ P t (.map (some r)) k v = .get r (Gl P r kd k v):=by
 unfold LJ iQ
 simp only[h1,h2,h3,cond_true,AP.bind]
 congr 1
 funext b
 cases b with
 |map es c=>
  simp only[Gl]
  unfold HX
  cases cA P kd k es 0 with
  |none=>rfl
  |some q=>
   cases q with
   |none=>rfl
   |some p=>simp only;cases simpleKey kd<;>rfl
 | _=>rfl
theorem HZ {r:Nat} {kd:TypeDesc} {k v:Value} {es:List (Value×Value×Nat)} {c:Nat}:Gl P r kd k v (.map es c)=HX r (simpleKey kd) k v es c (cA P kd k es 0):=rfl
def mlB:aj→AP aJ
 | .map es _ => .pure (.value (.int .i64 es.length))
 | _ => .fail "map block"
@[go_sem] theorem Ts {es:List (Value×Value×Nat)} {c:Nat}:mlB (.map es c) = .pure (.value (.int .i64 es.length)):=rfl
end
end Go.Am
namespace Go.Am
def tj (m:Tm) (d:List Nat):Tm:={ m with gD:=d }
@[go_sem] theorem Xr {m:Tm} {d:List Nat}:(tj m d).n=m.n:=rfl
@[go_sem] theorem Q9 {m:Tm} {d:List Nat}:(tj m d).gD=d:=rfl
@[go_sem] theorem Q_ {m:Tm} {d:List Nat} {i:Nat}:(tj m d).get i=m.get i:=rfl
def nB:List Nat→PT aj→Option (PT aj)
 | [],h=>some h
 |d::r,h=>match h.get d with
  |some .deferred=>nB r (h.set d none)
  | _=>none
theorem pS:∀ (l:List Nat) (h h':PT aj) (n:Nat),nB l h=some h'→eI 0 l (S0 h n) = .ok () (S0 h' n)
 | [],h,h',n,e=>by simp only[nB,Option.some.injEq] at e;subst e;rfl
 |d::r,h,h',n,e=>by
  simp only[nB] at e
  split at e
  ·rename_i hd
   have ih:=pS r (h.set d none) h' n e
   simp only[eI,mH,AP.run,show (S0 h n).heap=h from rfl,hd,show Nat.blt d 0=false from rfl,cond_false]
   simp only[aK]
   exact ih
  ·simp at e
def BN (P:Program) (rs:List ResultVar) (R:Value→PT aj→Nat→Prop) (e:bJ) (m:Tm) (h:PT aj) (n:Nat):Prop:=
 (match e with | .exit _=>False | _=>True)∧∃ h2,nB m.gD h=some h2∧∃ l,jh P m h2 rs=some l∧R (oneOf l) h2 n
theorem H6 {P:Program} {O:dK} {f:FuncId} {fn:Func} {c:Code} {args:List Value} {h:PT aj} {n:Nat} {R:Value→PT aj→Nat→Prop} (hf:P.funcs[f]? = some fn) (hb:fn.body=some c)
  (H:∀ z:Zx,z.P=P→z.O=O→z.ro=none→z.N=args.length+(fn.ntmps-args.length)→z.Q=BN P fn.results.toList R→eZ z c [] ⟨args.length+(fn.ntmps-args.length),PT.ofList .leaf 0 args,[]⟩ h n):b9 P O f args h n R:=by
 obtain⟨_,k,x,h',n',e,hx⟩:=H ⟨P,O,none,args.length+(fn.ntmps-args.length),BN P fn.results.toList R⟩ rfl rfl rfl rfl rfl
 obtain⟨_,hx,h2,hd,l,hl,hR⟩:_∧BN P fn.results.toList R x.1 x.2 h' n':=hx
 refine⟨k,oneOf l,h2,n',?_,hR⟩
 simp only[fZ,hf,hb]
 rw[e,aK]
 unfold iR
 cases hx1:x.1 with
 |exit i=>rw[hx1] at hx;exact hx.elim
 |normal=>simp only;rw[pS _ _ _ _ hd,aK,mP hl];rfl
 |ret=>simp only;rw[pS _ _ _ _ hd,aK,mP hl];rfl
theorem EP {P:Program} {O:dK} {f:FuncId} {fn:Func} {c:Code} {args:List Value} {h:PT aj} {n N:Nat} {R:Value→PT aj→Nat→Prop} (hf:P.funcs[f]? = some fn) (hb:fn.body=some c) (hN:args.length+(fn.ntmps-args.length)=N)
  (H:∀ z:Zx,z.P=P→z.O=O→z.ro=none→z.N=N→z.Q=BN P fn.results.toList R→eZ z c [] ⟨N,PT.ofList .leaf 0 args,[]⟩ h n):b9 P O f args h n R:=by
 subst hN;exact H6 hf hb H
@[go_sem] theorem Ra {P:Program} {rs:List ResultVar} {R:Value→PT aj→Nat→Prop} {m:Tm} {h:PT aj} {n:Nat}:BN P rs R .ret m h n↔∃ h2,nB m.gD h=some h2∧∃ l,jh P m h2 rs=some l∧R (oneOf l) h2 n:=by simp[BN]
@[go_sem] theorem OA {h:PT aj}:nB [] h=some h:=rfl
def H7 (o:Option aj) (d:Nat) (r:List Nat) (h:PT aj):Option (PT aj):=match o with
 |some .deferred=>nB r (h.set d none)
 | _=>none
@[go_sem] theorem LL {d:Nat} {r:List Nat} {h:PT aj}:nB (d::r) h=H7 (h.get d) d r h:=rfl
@[go_sem] theorem Tt {d:Nat} {r:List Nat} {h:PT aj}:H7 (some .deferred) d r h=nB r (h.set d none):=rfl
section
variable {z:Zx} {K:List KF} {m:Tm} {h:PT aj} {n:Nat}
theorem BO {g:Operand} {ps:Array Tmp} {as bd:Code} {f:FuncId} {args:List Value} {fn:Fn} {first captured:Array Value} {R:Value→PT aj→Nat→Prop} (hn:m.n=z.N) (hro:z.ro=none) (hg:bt g=true) (he:m.eval g = .func fn first captured)
  (hc:fI z.P fn captured.toList (first.toList++[.func (.yield (n+1)) ⟨[]⟩ ⟨[]⟩]) = .pure (.enter f args)) (hO:z.O f args=none)
  (hB:b9 z.P z.O f args ((h.set n (some .deferred)).set (n+1) (some (.loop .ready none m ps.toList as bd))) (n+2) R)
  (hk:∀ v h' n',R v h' n'→h'.get (n+1)=some (.loop .ready none m ps.toList as bd)∧Rs z K .normal (tj m (n::m.gD)) (h'.set (n+1) (some (.loop .exhausted none m ps.toList as bd))) n'):eZ z (.rangeFunc g ps as bd) K m h n:=by
 obtain⟨k,v,h',n',e,hR⟩:=hB
 obtain⟨hl,hr⟩:=hk v h' n' hR
 refine⟨hn,k+1,(.normal,tj m (n::m.gD)),h'.set (n+1) (some (.loop .exhausted none m ps.toList as bd)),n',?_,hr⟩
 rw[cD]
 simp only[bD,fQ,hg,cond_true,hro]
 unfold uh
 simp only[AP.run,S0,aK]
 unfold gW
 simp only[he,hc,AP.bind,AP.run,aK]
 unfold fD
 simp only[hO]
 have e':fZ z.P (kX z.P z.O k) 0 f args ⟨(h.set n (some .deferred)).set (n+1) (some (.loop .ready none m ps.toList as bd)),n+1+1,[],[]⟩ = .ok v (S0 h' n'):=e
 rw[e',aK]
 unfold oq
 simp only[AP.run,show (S0 h' n').heap=h' from rfl,hl,show Nat.blt (n+1) 0=false from rfl,cond_false,aK]
 rfl
def lV (P:Program) (O:dK) (l:Nat) (m0:Tm) (as bd:Code) (h:PT aj) (n:Nat) (R:Bool→PT aj→Nat→Prop):Prop:=
 ∃ k b h' n',fP (kX P O k) 0 l m0 as bd (S0 h n) = .ok (.bool b) (S0 h' n')∧R b h' n'
theorem lV.mono {P:Program} {O:dK} {l:Nat} {m0:Tm} {as bd:Code} {R R':Bool→PT aj→Nat→Prop} (e:lV P O l m0 as bd h n R) (hR:∀ b h' n',R b h' n'→R' b h' n'):lV P O l m0 as bd h n R':=by
 obtain⟨k,b,h',n',e,r⟩:=e
 exact⟨k,b,h',n',e,hR _ _ _ r⟩
theorem BP {l:Nat} {m0:Tm} {as bd:Code} {d:Option Nat} {ops r:List Oper} {R:Bool→PT aj→Nat→Prop} (hm:m.n=z.N) (e:lV z.P z.O l m0 as bd h n R) (hk:∀ b h' n',R b h' n'→kU z (.pure (.value (.bool b))) d ops r K m h' n'):
  kU z (.pure (.round l m0 as bd)) d ops r K m h n:=by
 obtain⟨k,b,h',n',e,hR⟩:=e
 obtain⟨_,k2,m',h2,n2,e2,q⟩:=hk b h' n' hR
 refine⟨hm,max k k2,m',h2,n2,?_,q⟩
 simp only[AP.run,aK,f_] at e2 ⊢
 rw[rY (ez (Nat.le_max_left k k2)) e,aK]
 exact bN (fun _ _ q=>q) (fun a s _ b s' q=>oK (ez (Nat.le_max_right k k2)) r q) e2
def EvR (z:Zx) (l:Nat) (m0:Tm) (as bd:Code) (d:Option Nat) (ops r:List Oper) (K:List KF) (m:Tm) (h:PT aj) (n:Nat):Prop:=kU z (.pure (.round l m0 as bd)) d ops r K m h n
@[go_sem] theorem Tv {l:Nat} {m0:Tm} {as bd:Code} {d:Option Nat} {ops r:List Oper}:kU z (.pure (.round l m0 as bd)) d ops r K m h n↔EvR z l m0 as bd d ops r K m h n:=Iff.rfl
theorem BQ {l:Nat} {m0:Tm} {as bd:Code} {d:Option Nat} {ops r:List Oper} {R:Bool→PT aj→Nat→Prop} (hm:m.n=z.N) (e:lV z.P z.O l m0 as bd h n R) (hk:∀ b h' n',R b h' n'→kU z (.pure (.value (.bool b))) d ops r K m h' n'):
  EvR z l m0 as bd d ops r K m h n:=BP hm e hk
theorem BR {P:Program} {O:dK} {l N:Nat} {m0:Tm} {as bd:Code} {R:Bool→PT aj→Nat→Prop} {pe:Option Code} {tm:Tm} {ps:List Tmp} {a b:Code}
  (H:∀ z0:Zx,z0.P=P→z0.O=O→z0.ro=some l→z0.N=N→z0.Q=(fun e m1 h1 n1=>e = .normal∧h1.get l=some (.loop .ready pe tm ps a b)∧
   ∀ z1:Zx,z1.P=P→z1.O=O→z1.ro=some l→z1.N=N→z1.Q=(fun e2 m2 h2 n2=>h2.get l=some (.loop .busy pe tm ps a b)∧R (exitCode e2).isNone (h2.set l (some (.loop (cond (exitCode e2).isNone .ready .done) (exitCode e2) tm ps a b))) n2)→
    eZ z1 bd [] m1 (h1.set l (some (.loop .busy pe tm ps a b))) n1)→eZ z0 as [] m0 h n):lV P O l m0 as bd h n R:=by
 obtain⟨hn0,k,x,h1,n1,e,_,hx,hl,hb⟩:=H ⟨P,O,some l,N,_⟩ rfl rfl rfl rfl rfl
 obtain⟨hn1,k2,y,h2,n2,e2,_,Nt,hR⟩:=hb ⟨P,O,some l,N,_⟩ rfl rfl rfl rfl rfl
 refine⟨max k k2,(exitCode y.1).isNone,h2.set l (some (.loop (cond (exitCode y.1).isNone .ready .done) (exitCode y.1) tm ps a b)),n2,?_,hR⟩
 unfold fP
 rw[ez (Nat.le_max_left k k2) _ _ _ _ _ _ _ e,aK]
 rw[hx]
 simp only
 unfold mI
 simp only[AP.run,show (S0 h1 n1).heap=h1 from rfl,hl,show Nat.blt l 0=false from rfl,cond_false,aK]
 have Jl:=ez (Nat.le_max_right k k2) _ _ _ _ _ _ _ e2
 have e3:kX P O (max k k2) (some l) 0 bd x.2 ⟨h1.set l (some (.loop .busy pe tm ps a b)),(S0 h1 n1).next,(S0 h1 n1).rd,(S0 h1 n1).wr⟩ = .ok y (S0 h2 n2):=Jl
 rw[e3,aK]
 unfold qH
 simp only[AP.run,show (S0 h2 n2).heap=h2 from rfl,Nt,show Nat.blt l 0=false from rfl,cond_false]
 rfl
variable {P:Program}
def Xt (args:List Value) (l:Nat):aj→AP aJ
 | .loop _ _ tm ps as bd=>match eH ps args tm with
  |some m => .pure (.round l (tj m []) as bd)
  |none => .fail "yield arguments"
 | _ => .fail "yield loop"
theorem uS {l:Nat} {cap args:List Value}:fI P (.yield l) cap args = .get l (Xt args l):=by
 show AP.get l _=AP.get l _
 congr 1
@[go_sem] theorem J9 {l:Nat} {first captured:Array Value} {args:List Value}:Ey P (.func (.yield l) first captured) args = .get l (Xt (first.toList++args) l):=uS (P:=P) (cap:=captured.toList)
def ylR (l:Nat) (as bd:Code):Option Tm→AP aJ
 |some m => .pure (.round l (tj m []) as bd)
 |none => .fail "yield arguments"
@[go_sem] theorem Rb {args:List Value} {l:Nat} {st:LoopState} {pe:Option Code} {tm:Tm} {ps:List Tmp} {as bd:Code}:Xt args l (.loop st pe tm ps as bd)=ylR l as bd (eH ps args tm):=by
 show (match eH ps args tm with |some m=>_ |none=>_)=_
 generalize eH ps args tm=o
 cases o<;>rfl
@[go_sem] theorem Rc {l:Nat} {as bd:Code} {m:Tm}:ylR l as bd (some m) = .pure (.round l (tj m []) as bd):=rfl
theorem wO {p:Tmp} {v:Value} {tm:Tm} (h:p<tm.n):eH [p] [v] tm=some (up tm p v):=by
 have hb:Nat.blt p tm.n=true:=Nat.ble_eq_true_of_le h
 simp only[eH,Tm.put,hb,cond_true,up]
@[go_sem] theorem J_ {tm:Tm}:eH [] [] tm=some tm:=rfl
end
end Go.Am
namespace Go.Am
end Go.Am
namespace Go.Am
class Sp (G:Prop) (p q A B:outParam Prop):Prop where
 sp:(p→A)→(q→B)→G
theorem xs {G p q A B:Prop} [s:Sp G p q A B] (h1:p→A) (h2:q→B):G:=s.sp h1 h2
section
variable {z:Zx} {K:List KF} {m:Tm} {h:PT aj} {n:Nat} {p:Prop} [Decidable p] {a b:Code} {o:Oper} {ops r:List Oper} {t:Bool} {L:List (Nat×Nat)} {fs:List cm}
instance (priority:=low):Sp (yL z (.bool t) a b K m h n) (t=true) (t=false) (eZ z a K m h n) (eZ z b K m h n):=⟨fun h1 h2=>xc4 h1 h2⟩
instance:Sp (yL z (.bool !t) a b K m h n) (t=false) (t=true) (eZ z a K m h n) (eZ z b K m h n):=⟨fun h1 h2=>xc3 h1 h2⟩
instance:Sp (yL z (.bool (decide p)) a b K m h n) p (¬p) (eZ z a K m h n) (eZ z b K m h n):=⟨fun h1 h2=>xc2 h1 h2⟩
instance (priority:=high):Sp (yL z (.bool (decide (¬p))) a b K m h n) (¬p) p (eZ z a K m h n) (eZ z b K m h n):=⟨fun h1 h2=>xc1 h1 h2⟩
instance (priority:=low):Sp (jB z t o ops r K m h n) (t=true) (t=false) (jB z true o ops r K m h n) (jB z false o ops r K m h n):=⟨fun h1 h2=>xg4 h1 h2⟩
instance:Sp (jB z (!t) o ops r K m h n) (t=false) (t=true) (jB z true o ops r K m h n) (jB z false o ops r K m h n):=⟨fun h1 h2=>xg3 h1 h2⟩
instance:Sp (jB z (decide p) o ops r K m h n) p (¬p) (jB z true o ops r K m h n) (jB z false o ops r K m h n):=⟨fun h1 h2=>xg2 h1 h2⟩
instance (priority:=high):Sp (jB z (decide (¬p)) o ops r K m h n) (¬p) p (jB z true o ops r K m h n) (jB z false o ops r K m h n):=⟨fun h1 h2=>xg1 h1 h2⟩
instance (priority:=low):Sp (jC z L t o ops r K m h n fs) (t=true) (t=false) (jC z L true o ops r K m h n fs) (jC z L false o ops r K m h n fs):=⟨fun h1 h2=>xh4 h1 h2⟩
instance:Sp (jC z L (!t) o ops r K m h n fs) (t=false) (t=true) (jC z L true o ops r K m h n fs) (jC z L false o ops r K m h n fs):=⟨fun h1 h2=>xh3 h1 h2⟩
instance:Sp (jC z L (decide p) o ops r K m h n fs) p (¬p) (jC z L true o ops r K m h n fs) (jC z L false o ops r K m h n fs):=⟨fun h1 h2=>xh2 h1 h2⟩
instance (priority:=high):Sp (jC z L (decide (¬p)) o ops r K m h n fs) (¬p) p (jC z L true o ops r K m h n fs) (jC z L false o ops r K m h n fs):=⟨fun h1 h2=>xh1 h1 h2⟩
end
class Cl (G:Prop) (z:outParam Zx) (f:outParam FuncId) (args:outParam (List Value)) (m:outParam Tm) (h:outParam (PT aj)) (n:outParam Nat) (R:outParam (Value→PT aj→Nat→Prop)):Prop where
 cl:m.n=z.N→z.O f args=none→b9 z.P z.O f args h n R→G
section
variable {z:Zx} {K:List KF} {m:Tm} {h:PT aj} {n:Nat} {f:FuncId} {args:List Value} {d:Option Nat} {ops r:List Oper} {L:List (Nat×Nat)} {lo:Nat} {rd wr:List Nat} {fs:List cm}
instance:Cl (K3 z none f args d ops r K m h n) z f args m h n (fun v h' n'=>kU z (.pure (.value v)) d ops r K m h' n'):=⟨fun hm hn e=>EM hm hn e fun _ _ _ q=>q⟩
instance:Cl (Bs z L none f args d ops r K m h n lo rd wr fs) z f args m h n (fun v h' n'=>∀ rd' wr':List Nat,nr z L (.pure (.value v)) d ops r K m h' n' lo rd' wr' fs):=⟨fun hm hn e=>by
 obtain⟨k,v,h',n',e,hR⟩:=e
 exact Ed hm hn e hR⟩
end
theorem eJ {G:Prop} {z:Zx} {f:FuncId} {args:List Value} {m:Tm} {h:PT aj} {n:Nat} {R R0:Value→PT aj→Nat→Prop} {P:Program} {O:dK} [c:Cl G z f args m h n R] (e:b9 P O f args h n R0) (hP:z.P=P) (hO:z.O=O) (hm:m.n=z.N) (hn:z.O f args=none)
  (hk:∀ v h' n',R0 v h' n'→R v h' n'):G:=by
 subst hP hO
 obtain⟨k,v,h',n',e,q⟩:=e
 exact c.cl hm hn ⟨k,v,h',n',e,hk _ _ _ q⟩
theorem aT {P:Program} {f:FuncId} {fn:Func} {c:Code} (hf:P.funcs[f]? = some fn) (hb:fn.body=some c) {G:Prop} {z:Zx} {args:List Value} {m:Tm} {h:PT aj} {n:Nat} {R:Value→PT aj→Nat→Prop} [i:Cl G z f args m h n R] (hP:z.P=P) (hm:m.n=z.N) (hn:z.O f args=none)
  (H:∀ y:Zx,y.P=P→y.O=z.O→y.ro=none→y.N=args.length+(fn.ntmps-args.length)→y.Q=Fin P fn.results.toList R→eZ y c [] ⟨args.length+(fn.ntmps-args.length),PT.ofList .leaf 0 args,[]⟩ h n):G:=by
 subst hP
 exact i.cl hm hn (aC hf hb rfl H)
section
variable {P:Program} {ρ:Operand→Value} {d:Option Tmp} {ty:TypeId} {pos:String} {af:Array Edge} {g:Option (Nat×Bool)}
@[go_sem] theorem H8 {r:Operand} {nm:String} {as:Array Operand} {ts:Array TypeId}:(⟨.invoke r nm,as,ts⟩:Call).operands=#[r]++as:=rfl
@[go_sem] theorem LM {r:Operand} {nm:String} {as:Array Operand} {ts:Array TypeId}:jA P ρ ⟨d,.call ⟨.invoke r nm,as,ts⟩,ty,pos,af,g⟩=aI P (ρ r) nm (as.toList.map ρ):=rfl
end
theorem dw {z:Zx} {K:List KF} {m:Tm} {h:PT aj} {n:Nat} (nt id:Nat) (L:List (Nat×Nat)) {ops:Array Oper} (hm:m.n=nt) (hL:a_ (aY [] ops.toList) ops.toList.length=L) (hd:iq ops.toList L=true) (e:CK z L ops.toList ops.toList K m h n []):eZ z (.region id ops true) K m h n:=D7 hL hd e
theorem dz {z:Zx} {K:List KF} {m:Tm} {h:PT aj} {n:Nat} (nt id:Nat) (L:List (Nat×Nat)) {ops:Array Oper} (e:CK z L ops.toList ops.toList K m h n []) (hm:m.n=nt:=by first | (simp only[go_sem, *];done) |rfl) (hL:a_ (aY [] ops.toList) ops.toList.length=L:=by kernel_rfl) (hd:iq ops.toList L=true:=by kernel_rfl):eZ z (.region id ops true) K m h n:=dw nt id L hm hL hd e
theorem bG {n:Nat}:n≤n:=Nat.le_refl n
theorem bH {n:Nat}:n<n.succ:=Nat.lt_succ_self n
abbrev pt (b:Nat):Value := .pointer (some ⟨b,0,none⟩)
abbrev row (L:List Value):Option aj:=some (.cells (PT.ofList .leaf 0 L) false)
abbrev qC (L:List Value) (ro:Bool):Option aj:=some (.cells (PT.ofList .leaf 0 L) ro)
abbrev I6 (n:Int):Value := .int .i64 n
abbrev U6 (n:Int):Value := .int .u64 n
abbrev U8 (n:Int):Value := .int .u8 n
abbrev dY (l:List Value):Value := .tuple ⟨l⟩
end Go.Am
namespace Go.Am
theorem bR {z:Zx} {K:List KF} {m:Tm} {h:PT aj} {n:Nat} (id:Nat) {ops:Array Oper} (e:eZ z (.region id ops true) K m h n):eZ z (.region id ops true) K m h n:=e
abbrev Rl:=Nat×Nat
def upd {α:Type} (f:Rl→α) (r:Rl) (x:α):Rl→α:=fun s=>if s=r then x else f s
theorem ah {α:Type} {f:Rl→α} {r:Rl} {x:α}:upd f r x r=x:=if_pos rfl
theorem ay {α:Type} {f:Rl→α} {r s:Rl} {x:α} (h:s≠r):upd f r x s=f s:=if_neg h
theorem au {α:Type} {f:Rl→α} {a b c d:Nat} {x:α} (h:c≠a):upd f (a,b) x (c,d)=f (c,d):=if_neg fun e=>h (congrArg Prod.fst e)
theorem aR {α:Type} {f:Rl→α} {a b d:Nat} {x:α} (h:d≠b):upd f (a,b) x (a,d)=f (a,d):=if_neg fun e=>h (congrArg Prod.snd e)
theorem aN {α:Type} {f:Rl→α} {r:Rl} {x y:α}:upd (upd f r x) r y=upd f r y:=by funext s;unfold upd;split<;>rfl
theorem sn {α:Type} {f:Rl→α} {r:Rl} {x:α} (h:f r=x):upd f r x=f:=by
 funext s;unfold upd;split
 ·rename_i e;rw[e,h]
 ·rfl
def Df (a b:Nat):Prop:=a≠b
theorem Df.symm {a b:Nat} (h:Df a b):Df b a:=fun e=>h e.symm
@[go_sem] theorem Tw {h:PT aj} {i j:Nat} {b:Option aj} (hd:Df i j):(h.set i b).get j=h.get j:=bO hd
@[go_sem] theorem Rd {h:PT aj} {i j:Nat} {b:Option aj} (hd:Df j i):(h.set i b).get j=h.get j:=bO fun e=>hd e.symm
structure St (h:PT aj) (n:Nat) (d:Rl→Nat) (C:Rl→Option aj):Prop where
 get:∀ r B,C r=some B→h.get (d r)=some B
 inj:∀ r s,C r≠none→C s≠none→d r=d s→r=s
 wf:iG h n
section
variable {h:PT aj} {n:Nat} {d:Rl→Nat} {C:Rl→Option aj}
theorem St.at (S:St h n d C) {r:Rl} {B:aj} (e:C r=some B):h.get (d r)=some B:=S.get r B e
theorem St.lt (S:St h n d C) {r:Rl} {B:aj} (e:C r=some B):d r<n:=S.wf.lt (S.get r B e)
theorem St.df (S:St h n d C) {r s:Rl} {A B:aj} (e:C r=some A) (f:C s=some B) (k:r≠s):Df (d r) (d s):=fun q=>k (S.inj r s (by rw[e];simp) (by rw[f];simp) q)
theorem St.set (S:St h n d C) (r:Rl) {i:Nat} {A:aj} (B:aj) (e:C r=some A) (hi:d r=i):St (h.set i (some B)) n d (upd C r (some B)):=by
 subst hi
 refine⟨fun s D q=>?_,fun s t q1 q2 q=>?_,S.wf.set (Nat.le_refl _) (S.lt e)⟩
 ·unfold upd at q
  split at q
  ·rename_i c;subst c
   rw[cG];exact q
  ·rename_i c
   rw[bO (S.df q e c).symm];exact S.get s D q
 ·refine S.inj s t ?_ ?_ q
  ·unfold upd at q1
   split at q1
   ·rename_i c;rw[c,e];simp
   ·exact q1
  ·unfold upd at q2
   split at q2
   ·rename_i c;rw[c,e];simp
   ·exact q2
theorem St.kill (S:St h n d C) (r:Rl) {i:Nat} {A:aj} (e:C r=some A) (hi:d r=i):St (h.set i none) n d (upd C r none):=by
 subst hi
 refine⟨fun s D q=>?_,fun s t q1 q2 q=>?_,S.wf.set (Nat.le_refl _) (S.lt e)⟩
 ·unfold upd at q
  split at q
  ·simp at q
  ·rename_i c
   rw[bO (S.df q e c).symm];exact S.get s D q
 ·refine S.inj s t ?_ ?_ q
  ·unfold upd at q1
   split at q1
   ·exact absurd rfl q1
   ·exact q1
  ·unfold upd at q2
   split at q2
   ·exact absurd rfl q2
   ·exact q2
theorem St.new (S:St h n d C) (r:Rl) {i m:Nat} (B:aj) (hi:n≤i) (hm:i<m):St (h.set i (some B)) m (upd d r i) (upd C r (some B)):=by
 refine⟨fun s D q=>?_,fun s t q1 q2 q=>?_,S.wf.set (by omega) hm⟩
 ·unfold upd at q ⊢
  split at q
  ·rename_i c;rw[if_pos c,cG];exact q
  ·rename_i c
   have:=S.lt q
   rw[if_neg c,bO (by omega)];exact S.get s D q
 ·unfold upd at q q1 q2
  by_cases c1:s=r
  ·by_cases c2:t=r
   ·rw[c1,c2]
   ·rw[if_pos c1,if_neg c2] at q
    rw[if_neg c2] at q2
    obtain⟨B',hB⟩:=Option.ne_none_iff_exists'.1 q2
    have:=S.lt hB
    omega
  ·by_cases c2:t=r
   ·rw[if_neg c1,if_pos c2] at q
    rw[if_neg c1] at q1
    obtain⟨B',hB⟩:=Option.ne_none_iff_exists'.1 q1
    have:=S.lt hB
    omega
   ·rw[if_neg c1,if_neg c2] at q
    rw[if_neg c1] at q1
    rw[if_neg c2] at q2
    exact S.inj s t q1 q2 q
theorem St.junk (S:St h n d C) {i m:Nat} {B:Option aj} (hi:n≤i) (hm:i<m):St (h.set i B) m d C:=by
 refine⟨fun s D q=>?_,S.inj,S.wf.set (by omega) hm⟩
 have:=S.lt q
 rw[bO (by omega)];exact S.get s D q
theorem St.mono (S:St h n d C) {m:Nat} (hm:n≤m):St h m d C:=⟨S.get,S.inj,S.wf.mono hm⟩
theorem St.drop (S:St h n d C) (r:Rl):St h n d (upd C r none):=by
 refine⟨fun s D q=>?_,fun s t q1 q2 q=>?_,S.wf⟩
 ·unfold upd at q
  split at q
  ·simp at q
  ·exact S.get s D q
 ·unfold upd at q1 q2
  split at q1
  ·exact absurd rfl q1
  ·split at q2
   ·exact absurd rfl q2
   ·exact S.inj s t q1 q2 q
theorem St.kept (S:St h n d C) {h':PT aj} {n':Nat} (k:Kept h h') (w:iG h' n'):St h' n' d C:=⟨fun r B q=>k _ _ (S.get r B q),S.inj,w⟩
theorem St.eq (S:St h n d C) {d':Rl→Nat} {C':Rl→Option aj} (e:C=C') (e2:d=d'):St h n d' C':=by subst e e2;exact S
end
theorem St.one {h:PT aj} {n i:Nat} {B:aj} (r:Rl) (w:iG h n) (e:h.get i=some B):St h n (fun _=>i) (upd (fun _=>none) r (some B)):=by
 refine⟨fun s D q=>?_,fun s t q1 q2 q=>?_,w⟩
 ·unfold upd at q
  split at q
  ·rw[←Option.some.inj q];exact e
  ·simp at q
 ·unfold upd at q1 q2
  split at q1
  ·rename_i c
   split at q2
   ·rename_i c2;rw[c,c2]
   ·exact absurd rfl q2
  ·exact absurd rfl q1
theorem St.none {h:PT aj} {n:Nat} (d:Rl→Nat) (w:iG h n):St h n d (fun _=>none):=⟨fun r B q=>by simp at q,fun r s q1=>absurd rfl q1,w⟩
end Go.Am
namespace Go.Am
abbrev jy:=Int×Value×Nat
def gZ (k:IntKind) (l:List jy):List (Value×Value×Nat):=l.map fun e=>(.int k e.1,e.2.1,e.2.2)
def eV (x:Int):List jy→Nat→Option (Nat×Value)
 | [],_=>none
 |e::l,i=>if x=e.1 then some (i,e.2.1) else eV x l (i+1)
theorem gS {kk k:IntKind} {x:Int}:∀ (l:List jy) (i:Nat),iP (.int kk) (.int k x) (gZ k l) i=some (eV x l i)
 | [],i=>rfl
 |e::l,i=>by
  have ih:=gS (kk:=kk) (k:=k) (x:=x) l (i+1)
  unfold gZ at*
  rw[List.map_cons,iP,eV]
  simp only[Instr.sameNow,if_true]
  by_cases c:x=e.1
  ·rw[if_pos c,show (x==e.1)=true by simpa using c]
  ·rw[if_neg c,show (x==e.1)=false by simpa using c];exact ih
theorem su {x:Int}:∀ {l:List jy} {i:Nat},(∀ e∈l,e.1≠x)→eV x l i=none
 | [],_,_=>rfl
 |e::l,i,h=>by rw[eV,if_neg (fun c=>h e (by simp) c.symm)];exact su fun y hy=>h y (by simp[hy])
theorem sv {x:Int} {v:Value} {c:Nat}:∀ {l:List jy} {i j:Nat},l[j]? = some (x,v,c)→(∀ m e,m<j→l[m]? = some e→e.1≠x)→eV x l i=some (i+j,v)
 | [],i,j,h,_=>by simp at h
 |e::l,i,0,h,_=>by
  simp at h;subst h
  rw[eV,if_pos rfl];rfl
 |e::l,i,j+1,h,hn=>by
  rw[eV,if_neg (fun c=>hn 0 e (by omega) rfl c.symm),sv (i:=i+1) (j:=j) (by simpa using h) fun m e' hm he=>hn (m+1) e' (by omega) (by simpa using he)]
  rw[show i+1+j=i+(j+1) by omega]
theorem zc {k:IntKind} (l:List jy) (j:Nat):(gZ k l).eraseIdx j=gZ k (l.eraseIdx j):=by
 unfold gZ
 induction l generalizing j with
 |nil=>rfl
 |cons e l ih=>cases j with
  |zero=>rfl
  |succ j=>simp only[List.map_cons,List.eraseIdx_cons_succ,ih j]
theorem tY {k:IntKind} {x:Int} {v:Value} {c:Nat} (l:List jy):gZ k l++[(.int k x,v,c)]=gZ k (l++[(x,v,c)]):=by simp[gZ]
section
variable {P:Program} {t kt et:TypeId} {k:IntKind} {r:Nat} {x:Int} {v:Value} {ok:Bool}
theorem lkI (h1:P.underlying t=some (.map kt et)) (h2:P.underlying kt=some (.int k)):Oz P t (.map (some r)) (.int k x) ok = .get r (LK P (.int k) et (.int k x) ok):=HV h1 h2 rfl
theorem H9 {l:List jy} {c:Nat}:LK P (.int k) et (.int k x) ok (.map (gZ k l) c)=EO P et ok (some (eV x l 0)):=by rw[HW];exact congrArg (EO P et ok) (gS l 0)
theorem muI (h1:P.underlying t=some (.map kt et)) (h2:P.underlying kt=some (.int k)):LJ P t (.map (some r)) (.int k x) v = .get r (Gl P r (.int k) (.int k x) v):=HY h1 h2 rfl
theorem qN {l:List jy} {c:Nat}:Gl P r (.int k) (.int k x) v (.map (gZ k l) c)=HX r true (.int k x) v (gZ k l) c (some (eV x l 0)):=by rw[HZ];exact congrArg (HX r true (.int k x) v (gZ k l) c) (gS l 0)
def Rf (P:Program) (r:Nat) (kd:TypeDesc) (k:Value):aj→AP aJ
 | .map es clk=>match cA P kd k es 0 with
  |some (some (i,_)) => .set r (.map (es.eraseIdx i) clk) (.pure (.value (.tuple ⟨[]⟩)))
  |some none => .pure (.value (.tuple ⟨[]⟩))
  |none => .fail "delete"
 | _ => .fail "delete"
theorem dlI {ts:List TypeId} (h1:P.underlying t=some (.map kt et)) (h2:P.underlying kt=some (.int k)):uN P .delete (t::ts) [.map (some r),.int k x] = .get r (Rf P r (.int k) (.int k x)):=by
 unfold uN
 show (oo P (t::ts) [.map (some r),.int k x]).bind _=_
 unfold oo
 simp only[h1,h2,show jE P kt (.int k) (.int k x)=true from rfl,cond_true,AP.bind]
 congr 1
 funext b
 cases b with
 |map es c=>
  simp only[Rf]
  cases cA P (.int k) (.int k x) es 0 with
  |none=>rfl
  |some q=>cases q<;>rfl
 | _=>rfl
def Xu (r:Nat) (l:List jy) (k:IntKind) (c:Nat):Option (Nat×Value)→AP aJ
 |some (i,_) => .set r (.map (gZ k (l.eraseIdx i)) c) (.pure (.value (.tuple ⟨[]⟩)))
 |none => .pure (.value (.tuple ⟨[]⟩))
theorem H_ {l:List jy} {c:Nat}:Rf P r (.int k) (.int k x) (.map (gZ k l) c)=Xu r l k c (eV x l 0):=by
 unfold Rf
 simp only
 rw[show cA P (.int k) (.int k x) (gZ k l) 0=some (eV x l 0) from gS l 0]
 cases eV x l 0 with
 |none=>rfl
 |some q=>simp only[Xu,zc]
end
end Go.Am
namespace Go.Am
open Go.ChangeShapes Go.WideShapes Go.ChangeAt Go.RowKit
section
variable {H:Type} {enc:TypeId×Value→H} {P:Program} {w:World} {base:Nat} {held:Bool}
theorem lW {fuel:Nat} {t e:TypeId} {cs:List Value} {x:DataW H×List MemPlace} (ht:P.underlying t=some (.slice e)) (h:DataW.trod enc P w base (fun _=>true) held fuel t cs=some x):
  cs=[.slice none 0 0]∨∃ a len cap elems rest,cs=[.slice (some a) len cap]∧x.1 = .slice elems rest∧elems.length+rest.length=cap∧len≤cap∧∃ fuel',(∀ i,i<len→∃ l y,w.cells? base (a.add (i*P.cellsOf e)) (P.cellsOf e)=some l∧elems[i]? = some y.1∧DataW.trod enc P w base (fun _=>true) held fuel' e l=some y)∧(0<cap→∃ l,w.cells? base a (P.cellsOf e)=some l):=by
 have a0:∀ a:Addr,a.add (0*P.cellsOf e)=a:=fun a=>by unfold Addr.add;rw[if_pos (Nat.zero_mul _)]
 cases fuel with
 |zero=>simp[DataW.trod] at h
 |succ fuel=>
  rcases cs with _ | ⟨c,_ | ⟨c2,r⟩⟩
  ·simp[DataW.trod,ht] at h
  ·cases c with
   |slice a len cap=>
    cases a with
    |none=>
     left
     unfold DataW.trod at h
     rw[ht] at h
     split at h<;>simp_all
    |some a=>
     right
     unfold DataW.trod at h
     rw[ht] at h
     simp only at h
     split at h
     ·rename_i hc
      cases hm:(List.range len).mapM fun i=>(w.cells? base (a.add (i*P.cellsOf e)) (P.cellsOf e)).bind (DataW.trod enc P w base (fun _=>true) held fuel e) with
      |none=>rw[hm] at h;simp at h
      |some ys=>
       rw[hm] at h
       simp only[Option.bind_some,if_true] at h
       cases hr:(List.range (cap-len)).mapM fun j=>(w.cells? base (a.add ((len+j)*P.cellsOf e)) (P.cellsOf e)).bind (DataW.trod enc P w base (fun _=>true) held fuel e) with
       |none=>rw[hr] at h;simp at h
       |some zs=>
        rw[hr] at h
        simp only[Option.map_some,Option.some.injEq] at h
        have e1:=mapM_some_length hm
        have e2:=mapM_some_length hr
        simp only[List.length_range] at e1 e2
        refine⟨a,len,cap,ys.map (·.1),zs.map (·.1),rfl,by rw[←h],?_,hc.2.1,fuel,fun i hi=>?_,fun hpos=>?_⟩
        ·have:=hc.2.1
         simp only[List.length_map];omega
        ·obtain⟨y,h1,h2⟩:=qM hm (j:=i) (a:=i) (by simp[hi])
         cases hl:w.cells? base (a.add (i*P.cellsOf e)) (P.cellsOf e) with
         |none=>rw[hl] at h2;simp at h2
         |some l=>rw[hl] at h2;exact⟨l,y,rfl,by simp[h1],h2⟩
        ·rcases Nat.eq_zero_or_pos len with h0 |h0
         ·obtain⟨y,h1,h2⟩:=qM hr (j:=0) (a:=0) (by rw[List.getElem?_range (by omega)])
          rw[h0,Nat.zero_add,a0] at h2
          cases hl:w.cells? base a (P.cellsOf e) with
          |none=>rw[hl] at h2;simp at h2
          |some l=>exact⟨l,rfl⟩
         ·obtain⟨y,h1,h2⟩:=qM hm (j:=0) (a:=0) (by rw[List.getElem?_range h0])
          rw[a0] at h2
          cases hl:w.cells? base a (P.cellsOf e) with
          |none=>rw[hl] at h2;simp at h2
          |some l=>exact⟨l,rfl⟩
     ·simp at h
   | _=>simp[DataW.trod,ht] at h
  ·simp[DataW.trod,ht] at h
theorem cells?_block {a:Addr} {n:Nat} {l:List Value} (h:w.cells? base a n=some l) (hn:0<n):∃ c el fz,w.heap[a.block]? = some (.cells c el fz)∧a.spot=none:=by
 have hl:l.length=n:=by
  unfold World.cells? at h
  split at h
  ·have:=mapM_some_length h;rwa [List.length_range] at this
  ·simp at h
 obtain⟨c,hc⟩:∃ c,l[0]? = some c:=⟨l[0],List.getElem?_eq_getElem (by omega)⟩
 have hv:=pP h hc
 have a0:a.add 0=a:=by unfold Addr.add;rw[if_pos rfl]
 rw[a0] at hv
 unfold World.cell? at hv
 split at hv
 ·rename_i c2 el fz hb
  refine⟨c2,el,fz,hb,?_⟩
  cases hs:a.spot with
  |none=>rfl
  |some x=>rw[hs] at hv;simp at hv
 ·simp at hv
theorem add_add {a:Addr} (hs:a.spot=none) (m j:Nat):(a.add m).add j=⟨a.block,a.off+(m+j),none⟩:=by
 obtain⟨ab,ao,Pt⟩:=a
 simp only at hs
 subst hs
 unfold Addr.add
 by_cases Da:m=0
 ·by_cases hj0:j=0
  ·simp[Da,hj0]
  ·simp[Da,hj0]
 ·by_cases hj0:j=0
  ·simp[Da,hj0]
  ·simp[Da,hj0,Nat.add_assoc]
structure Ah where
 b:Nat
 s:Nat
 A:List (List Int)
 v:Value
structure Ai (w:World) (ks:List Ck) (x:Ah):Prop where
 ok:fC ks x.A
 at_:∃ c el fz,w.heap[x.b]? = some (.cells c el fz)∧∀ i u,(cH ks x.A)[i]? = some u→c[x.s+i]? = some u
 v:(x.v = .slice none 0 0∧x.A=[])∨∃ a cap,x.v = .slice (some a) x.A.length cap∧x.A.length≤cap∧cap≤reachBytes∧(cap=0∨a=⟨x.b,x.s,none⟩)
theorem ER {f:Nat} {t e:TypeId} {ks:List Ck} (ht:P.underlying t=some (.slice e)) (hf:jS P f e=some ks) (hk:ks.length=P.cellsOf e) (J7:0<ks.length) (hb:0<P.bytesOf e) {b0:Nat} {c0:Array Value} {Pk:TypeId} {Pm:Nat×Nat} (h0:w.heap[b0]? = some (.cells c0 Pk Pm))
  {fuel:Nat} {v:Value} {y:DataW H×List MemPlace} (h:DataW.trod enc P w base (fun _=>true) held fuel t [v]=some y) (hz:∀ n∈y.1.weights P t,n≤reachBytes):∃ x:Ah,x.v=v∧Ai w ks x:=by
 rcases lW ht h with e' | ⟨a,len,cap,elems,rest,e',hx,hcap,hle,fuel',hel,hpos⟩
 ·simp only[List.cons.injEq,and_true] at e'
  exact⟨⟨b0,0,[],v⟩,rfl,fun x hx=>by simp at hx,⟨c0,Pk,Pm,h0,fun i u hu=>by simp[cH] at hu⟩,.inl ⟨e',rfl⟩⟩
 ·simp only[List.cons.injEq,and_true] at e'
  have hsz:cap*P.bytesOf e≤reachBytes:=by
   refine hz _ ?_
   rw[hx]
   simp only[DataW.weights,ht]
   rw[hcap]
   exact List.mem_cons_self
  have Ag:cap≤reachBytes:=Nat.le_trans (Nat.le_mul_of_pos_right _ hb) hsz
  rcases Nat.eq_zero_or_pos cap with hc0 |hc0
  ·obtain rfl:len=0:=by omega
   exact⟨⟨b0,0,[],v⟩,rfl,fun x hx=>by simp at hx,⟨c0,Pk,Pm,h0,fun i u hu=>by simp[cH] at hu⟩,.inr ⟨a,cap,e',Nat.zero_le _,Ag,.inl hc0⟩⟩
  ·obtain⟨l0,vF⟩:=hpos hc0
   obtain⟨c,el,fz,hc,nA⟩:=cells?_block vF (by omega)
   obtain⟨A,Xq,Q7⟩:∃ A:List (List Int),A.length=len∧∀ (i:Nat) x,A[i]? = some x→(∀ (j:Nat) u,(qB ks x)[j]? = some u→c[a.off+(i*ks.length+j)]? = some u)∧x.length=ks.length∧HT ks x:=by
    refine oL len fun i hi=>?_
    obtain⟨l,y,hl,-,hy⟩:=hel i hi
    obtain⟨x,rfl,HU,Q8⟩:=jT f e ks hf fuel' l y hy
    refine⟨x,fun j u hu=>?_,HU,Q8⟩
    have hv:=pP hl hu
    rw[←hk,add_add nA] at hv
    unfold World.cell? at hv
    simp only[hc] at hv
    simpa using hv
   subst Xq
   have hA:fC ks A:=fun x hx=>by
    obtain⟨i,hi⟩:=List.getElem?_of_mem hx
    exact(Q7 i x hi).2
   refine⟨⟨a.block,a.off,A,v⟩,rfl,hA,⟨c,el,fz,hc,fun i u hu=>?_⟩,.inr ⟨a,cap,e',hle,Ag,.inr ?_⟩⟩
   ·obtain⟨y,h1,h2⟩:=sk J7 hA hu
    have h3:=(Q7 _ _ h1).1 _ _ h2
    rw[Nat.mul_comm,Nat.div_add_mod] at h3
    exact h3
   ·obtain⟨ab,ao,Pt⟩:=a
    simp only at nA
    subst nA
    rfl
def dV (ks:List Ck) (h:PT aj) (q:Nat) (s:Value) (As:List (List (List Int))):Prop:=
 (s = .slice none 0 0∧As=[])∨∃ cap vs,s = .slice (some ⟨q,0,none⟩) As.length cap∧As.length≤cap∧cap<4611686018427387904∧h.get q=some (.cells (PT.ofList .leaf 0 vs) true)∧vs.length=As.length∧
  ∀ i A,As[i]? = some A→fC ks A∧A.length≤reachBytes∧h.get (q+1+i)=some (.cells (PT.ofList .leaf 0 (cH ks A)) true)∧((vs[i]? = some (.slice none 0 0)∧A=[])∨∃ cap',vs[i]? = some (.slice (some ⟨q+1+i,0,none⟩) A.length cap')∧A.length≤cap'∧cap'<4611686018427387904)
theorem dV.keep {ks:List Ck} {h h':PT aj} {q:Nat} {s:Value} {As:List (List (List Int))} (H:dV ks h q s As) (k:Kept h h'):dV ks h' q s As:=by
 rcases H with e | ⟨cap,vs,e1,e2,e3,e4,e5,e6⟩
 ·exact .inl e
 ·exact .inr ⟨cap,vs,e1,e2,e3,k _ _ e4,e5,fun i A hA=>⟨(e6 i A hA).1,(e6 i A hA).2.1,k _ _ (e6 i A hA).2.2.1,(e6 i A hA).2.2.2⟩⟩
theorem wP {e:TypeId}:∀ {l:List (DataW H)} {i:Nat} {d:DataW H},l[i]? = some d→∀ n∈d.weights P e,n∈DataW.weightsAll P e l
 | [],i,d,h,n,hn=>by simp at h
 |x::l,0,d,h,n,hn=>by
  simp only[List.getElem?_cons_zero,Option.some.injEq] at h
  subst h
  rw[DataW.weightsAll];exact List.mem_append_left _ hn
 |x::l,i+1,d,h,n,hn=>by
  rw[DataW.weightsAll];exact List.mem_append_right _ (wP (by simpa using h) n hn)
set_option maxRecDepth 100000 in
theorem ze {f:Nat} {t e e2:TypeId} {ks:List Ck} (ht:P.underlying t=some (.slice e)) (he:P.underlying e=some (.slice e2)) (hce:P.cellsOf e=1) (hf:jS P f e2=some ks) (hk:ks.length=P.cellsOf e2) (J7:0<ks.length) (hb:0<P.bytesOf e) (CF:0<P.bytesOf e2)
  {v:Value} {d:DataW H} {p:List MemPlace} {base':Nat} {v0:List View} (Q6:nT v0 w) (hok:Value.okWide P w .any base' t v) (h:DataW.Trod enc P w base (fun _=>true) held t v d p) (hz:∀ n∈d.weights P t,n≤reachBytes):
  ∃ (v1:List View) (sl:Value) (As:List (List (List Int))),nT (v0++v1) w∧aF (fH (v0++v1)) sl v∧As.length≤reachBytes∧dV ks (ny (v0++v1)) v0.length sl As:=by
 unfold Value.okWide at hok
 rw[ht] at hok
 simp only at hok
 obtain⟨fuel,h⟩:=h
 have hv:∃ a len cap,v = .slice a len cap:=by
  unfold Cell.okWide at hok
  rw[ht] at hok
  cases v<;>first |exact⟨_,_,_,rfl⟩ | (simp[Cell.ok,ht] at hok;done)
 obtain⟨a0,len,cap,rfl⟩:=hv
 rcases lW ht h with e' | ⟨a,len',cap',elems,rest,e',hx,hcap,hle,fuel',hel,-⟩
 ·simp only[Value.cells,List.cons.injEq,and_true] at e'
  cases e'
  exact⟨[],.slice none 0 0,[],by rw[List.append_nil];exact Q6,.nilslice 0 0,by simp,.inl ⟨rfl,rfl⟩⟩
 ·simp only[Value.cells,List.cons.injEq,and_true] at e'
  cases e'
  unfold Cell.okWide at hok
  rw[ht] at hok
  simp only[Cell.ok,ht] at hok
  obtain⟨-,-,-,nA,row,cells,kr,-⟩:=hok
  have zb:∃ c el fz,w.heap[a.block]? = some (.cells c el fz):=by
   unfold World.shape? at kr
   split at kr
   ·exact⟨_,_,_,by assumption⟩
   ·simp at kr
  obtain⟨c,el,fz,hc⟩:=zb
  simp only at hx
  have hsz:cap*P.bytesOf e≤reachBytes:=by
   refine hz _ ?_
   rw[hx]
   simp only[DataW.weights,ht]
   rw[hcap]
   exact List.mem_cons_self
  have Ag:cap≤reachBytes:=Nat.le_trans (Nat.le_mul_of_pos_right _ hb) hsz
  have hrb:reachBytes<aB:=by decide
  have hlt: ¬ aB≤cap:=by omega
  obtain⟨xs,HU,hxs⟩:∃ xs:List Ah,xs.length=len∧∀ i x,xs[i]? = some x→Ai w ks x∧c[a.off+i]? = some x.v:=by
   refine oL len fun i hi=>?_
   obtain⟨l,y,hl,hy1,hy⟩:=hel i hi
   rw[hce] at hl
   obtain⟨u,rfl,hu⟩:=cells?_one hl
   obtain⟨x,rfl,xK⟩:=ER he hf hk J7 CF hc hy fun n hn=>hz n (by
    rw[hx]
    simp only[DataW.weights,ht]
    exact List.mem_cons_of_mem _ (List.mem_append_left _ (wP hy1 n hn)))
   refine⟨x,xK,?_⟩
   rw[Nat.mul_one,add_add nA] at hu
   unfold World.cell? at hu
   simp only[hc] at hu
   simpa using hu
  subst HU
  obtain⟨vs,hvl,hvs⟩:∃ vs:List Value,vs.length=xs.length∧∀ i u,vs[i]? = some u→∃ x:Ah,xs[i]? = some x∧((u=Value.slice none 0 0∧x.v = .slice none 0 0∧x.A=[])∨∃ (a:Addr) (cap':Nat),u=Value.slice (some ⟨v0.length+1+i,0,none⟩) x.A.length cap'∧x.v = .slice (some a) x.A.length cap'∧x.A.length≤cap'∧cap'≤reachBytes∧(cap'=0∨a=⟨x.b,x.s,none⟩)):=by
   refine oL xs.length fun i hi=>?_
   have hx1:=List.getElem?_eq_getElem hi
   obtain⟨ok,-⟩:=hxs i _ hx1
   rcases ok.v with ⟨q1,q2⟩ | ⟨a2,cp,q1,q2,q3,q4⟩
   ·exact⟨.slice none 0 0,_,hx1,.inl ⟨rfl,q1,q2⟩⟩
   ·exact⟨_,_,hx1,.inr ⟨a2,cp,rfl,q1,q2,q3,q4⟩⟩
  have hG:∀ i x,xs[i]? = some x→(v0++(⟨a.block,a.off,vs⟩::xs.map fun x=>⟨x.b,x.s,cH ks x.A⟩))[v0.length+1+i]? = some ⟨x.b,x.s,cH ks x.A⟩:=fun i x hx=>by
   rw[List.getElem?_append_right (by omega),show v0.length+1+i-v0.length=i+1 by omega,List.getElem?_cons_succ,List.getElem?_map,hx];rfl
  have Tx:(v0++(⟨a.block,a.off,vs⟩::xs.map fun x=>⟨x.b,x.s,cH ks x.A⟩))[v0.length]? = some ⟨a.block,a.off,vs⟩:=by
   rw[List.getElem?_append_right (by omega),Nat.sub_self];rfl
  generalize hV:xs.map (fun x=>(⟨x.b,x.s,cH ks x.A⟩:View))=V at hG Tx
  have hVl:V.length=xs.length:=by rw[←hV,List.length_map]
  refine⟨⟨a.block,a.off,vs⟩::V,.slice (some ⟨v0.length,0,none⟩) xs.length cap,xs.map (·.A),?_,?_,by rw[List.length_map];omega,.inr ⟨cap,vs,by rw[List.length_map],by rw[List.length_map];omega,by unfold aB at hlt;omega,?_,by rw[hvl,List.length_map],?_⟩⟩
  ·intro k u hk
   rcases Nat.lt_trichotomy k v0.length with q |q |q
   ·rw[List.getElem?_append_left q] at hk
    obtain⟨cs,el,fz,e1,e2⟩:=Q6 k u hk
    exact⟨cs,el,fz,e1,fun i x hx=>by obtain⟨x',a,b⟩:=e2 i x hx;exact⟨x',a,b.mono (r_ v0 _)⟩⟩
   ·subst q
    rw[Tx] at hk
    obtain rfl:=Option.some.inj hk
    refine⟨c,el,fz,hc,fun i u hu=>?_⟩
    obtain⟨x,hx1,xK⟩:=hvs i u hu
    obtain⟨ok,hcx⟩:=hxs i x hx1
    refine⟨x.v,hcx,?_⟩
    rcases xK with ⟨rfl,q1,-⟩ | ⟨a2,cp,rfl,q1,q2,q3,q4⟩
    ·rw[q1];exact .nilslice 0 0
    ·rw[q1]
     refine .slice _ _ _ _ _ ?_ ?_
     ·by_cases zR:cp=0
      ·exact .inr (.inr ⟨by omega,zR⟩)
      ·rcases q4 with q4 |q4
       ·exact absurd q4 zR
       ·rw[q4]
        exact .inl ⟨rfl,rfl,x.s,by simp only[fH];rw[hG i x hx1];rfl,rfl⟩
     ·unfold bu.cap
      rw[if_neg (by omega)]
   ·obtain⟨i,rfl⟩:∃ i,k=v0.length+1+i:=⟨k-(v0.length+1),by omega⟩
    have hi:i<xs.length:=by
     have:=(List.getElem?_eq_some_iff.1 hk).1
     rw[List.length_append,List.length_cons,hVl] at this
     omega
    rw[hG i _ (List.getElem?_eq_getElem hi)] at hk
    obtain rfl:=Option.some.inj hk
    obtain⟨ok,-⟩:=hxs i _ (List.getElem?_eq_getElem hi)
    obtain⟨c2,el2,fz2,e1,e2⟩:=ok.at_
    refine⟨c2,el2,fz2,e1,fun j u hu=>⟨u,e2 j u hu,?_⟩⟩
    obtain⟨y,h1,h2⟩:=sk J7 ok.ok hu
    exact uR (List.mem_of_getElem? h2)
  ·refine .slice _ _ _ _ _ (.inl ⟨rfl,nA,a.off,?_,rfl⟩) ?_
   ·simp only[fH];rw[Tx];rfl
   ·unfold bu.cap
    rw[if_neg hlt]
  ·rw[fV,Tx];rfl
  ·intro i A hA
   rw[List.getElem?_map] at hA
   cases hx1:xs[i]? with
   |none=>rw[hx1] at hA;simp at hA
   |some x=>
    rw[hx1] at hA
    simp only[Option.map_some,Option.some.injEq] at hA
    subst hA
    obtain⟨ok,-⟩:=hxs i x hx1
    have hi:i<vs.length:=by rw[hvl];exact(List.getElem?_eq_some_iff.1 hx1).1
    obtain⟨x2,xK,wQ⟩:=hvs i _ (List.getElem?_eq_getElem hi)
    obtain rfl:x2=x:=by rw[hx1] at xK;exact(Option.some.inj xK).symm
    refine⟨ok.ok,?_,by rw[fV,hG i x2 hx1];rfl,?_⟩
    ·rcases wQ with ⟨-,-,q⟩ | ⟨a2,cp,q0,q1,q2,q3,q4⟩
     ·rw[q];exact Nat.zero_le _
     ·omega
    ·rcases wQ with ⟨q0,-,q⟩ | ⟨a2,cp,q0,q1,q2,q3,q4⟩
     ·exact .inl ⟨by rw[List.getElem?_eq_getElem hi,q0],q⟩
     ·exact .inr ⟨cp,by rw[List.getElem?_eq_getElem hi,q0],q2,by unfold aB at hrb;omega⟩
end
end Go.Am
