/-
  A part of the proof: contracts of inner functions.
-/
import Derived.Test.YtofmbmclopgldaaGreatAmU5
import Derived.Test.YtofmbmclopgldaaGreatAmU6
import Derived.Test.YtofmbmclopgldaaGreatAmY3
import Derived.Test.YtofmbmclopgldaaGreatAmY4
set_option linter.unusedSimpArgs false
set_option linter.unusedVariables false
namespace Go.Am
open Go.RowKit
end Go.Am
set_option linter.unusedSimpArgs false
set_option linter.unusedVariables false
namespace Go.Am
section
variable {P:Program} {ρ:Operand→Value} {d:Option Tmp} {ty:TypeId} {pos:String} {af:Array Edge} {g:Option (Nat×Bool)}
@[go_sem] theorem Ms {t:TypeId}:jk P ρ ⟨d,.makeMap t none,ty,pos,af,g⟩ = .new (.map [] 0) fun id => .pure (.value (.map (some id))):=rfl
def Rr (P:Program) (t:TypeId) (x k:Value) (ok:Bool):AP aD:=(jY P t x k ok).bind fun v => .pure (.value v)
@[go_sem] theorem Ox {t:TypeId} {x i:Operand} {ok:Bool}:jk P ρ ⟨d,.lookup t x i ok,ty,pos,af,g⟩=Rr P t (ρ x) (ρ i) ok:=rfl
def muQ (P:Program) (t:TypeId) (x k v:Value):AP aD:=(ez P t x k v).bind fun _ => .pure .skip
@[go_sem] theorem IV {t:TypeId} {x i v:Operand}:jk P ρ ⟨d,.mapUpdate t x i v,ty,pos,af,g⟩=muQ P t (ρ x) (ρ i) (ρ v):=rfl
def DF (P:Program) (et:TypeId) (ok:Bool):Option (Option (Nat×Value))→AP aD
 |some (some (_,v)) => .pure (.value (cond ok (.tuple ⟨[v,.bool true]⟩) v))
 |some none=>match zeroOf P et with
  |some z => .pure (.value (cond ok (.tuple ⟨[z,.bool false]⟩) z))
  |none => .fail "lookup"
 |none => .fail "lookup"
def Oy (P:Program) (kd:TypeDesc) (et:TypeId) (k:Value) (ok:Bool):ak→AP aD
 | .map es _=>DF P et ok (cH P kd k es 0)
 | _ => .fail "map block"
theorem J7 {t kt et:TypeId} {kd:TypeDesc} {r:Nat} {k:Value} {ok:Bool} (h1:P.underlying t=some (.map kt et)) (h2:P.underlying kt=some kd) (h3:lz P kt kd k=true):Rr P t (.map (some r)) k ok = .get r (Oy P kd et k ok):=by
 unfold Rr jY mG
 simp only[h1,h2,h3,cond_true,AP.bind]
 congr 1
 funext b
 cases b with
 |map es c=>
  simp only[AP.bind,Oy]
  unfold DF
  cases cH P kd k es 0 with
  |none=>rfl
  |some q=>
   cases q with
   |none=>simp only;cases zeroOf P et<;>rfl
   |some p=>rfl
 | _=>rfl
theorem J8 {kd:TypeDesc} {et:TypeId} {k:Value} {ok:Bool} {es:List (Value×Value×Nat)} {c:Nat}:Oy P kd et k ok (.map es c)=DF P et ok (cH P kd k es 0):=rfl
def Rt (r:Nat) (simple:Bool) (k v:Value) (es:List (Value×Value×Nat)) (clk:Nat):Option (Option (Nat×Value))→AP aD
 |some (some (i,_))=>cond simple (.set r (.map (ey k v es i) clk) (.pure .skip)) (.fail "mapUpdate")
 |some none => .set r (.map (es++[(k,v,clk)]) (clk+1)) (.pure .skip)
 |none => .fail "mapUpdate"
def Oz (P:Program) (r:Nat) (kd:TypeDesc) (k v:Value):ak→AP aD
 | .map es clk=>Rt r (simpleKey kd) k v es clk (cH P kd k es 0)
 | _ => .fail "mapUpdate"
theorem J9 {r:Nat} {kd:TypeDesc} {k v:Value} {es:List (Value×Value×Nat)} {c:Nat}:Oz P r kd k v (.map es c)=Rt r (simpleKey kd) k v es c (cH P kd k es 0):=rfl
def mlB:ak→AP aD
 | .map es _ => .pure (.value (.int .i64 es.length))
 | _ => .fail "map block"
@[go_sem] theorem V7 {es:List (Value×Value×Nat)} {c:Nat}:mlB (.map es c) = .pure (.value (.int .i64 es.length)):=rfl
end
end Go.Am
set_option linter.unusedSimpArgs false
set_option linter.unusedVariables false
namespace Go.Am
def yD (m:Tm) (d:List Nat):Tm:={ m with eS:=d }
@[go_sem] theorem abe {m:Tm} {d:List Nat}:(yD m d).n=m.n:=rfl
@[go_sem] theorem TV {m:Tm} {d:List Nat}:(yD m d).eS=d:=rfl
@[go_sem] theorem TW {m:Tm} {d:List Nat} {i:Nat}:(yD m d).get i=m.get i:=rfl
def kX:List Nat→PT ak→Option (PT ak)
 | [],h=>some h
 |d::r,h=>match h.get d with
  |some .deferred=>kX r (h.set d none)
  | _=>none
theorem pO:∀ (l:List Nat) (h h':PT ak) (n:Nat),kX l h=some h'→dO 0 l (S0 h n) = .ok () (S0 h' n)
 | [],h,h',n,e=>by simp only[kX,Option.some.injEq] at e;subst e;rfl
 |d::r,h,h',n,e=>by
  simp only[kX] at e
  split at e
  ·rename_i hd
   have ih:=pO r (h.set d none) h' n e
   simp only[dO,mI,AP.run,show (S0 h n).heap=h from rfl,hd,show Nat.blt d 0=false from rfl,cond_false]
   simp only[aM]
   exact ih
  ·simp at e
def DG (P:Program) (rs:List ResultVar) (R:Value→PT ak→Nat→Prop) (e:aV) (m:Tm) (h:PT ak) (n:Nat):Prop:=
 (match e with | .exit _=>False | _=>True)∧∃ h2,kX m.eS h=some h2∧∃ l,jl P m h2 rs=some l∧R (oneOf l) h2 n
theorem J_ {P:Program} {O:Over} {f:FuncId} {fn:Func} {c:Code} {args:List Value} {h:PT ak} {n:Nat} {R:Value→PT ak→Nat→Prop} (hf:P.funcs[f]? = some fn) (hb:fn.body=some c)
  (H:∀ z:Zx,z.P=P→z.O=O→z.ro=none→z.N=args.length+(fn.ntmps-args.length)→z.Q=DG P fn.results.toList R→fJ z c [] ⟨args.length+(fn.ntmps-args.length),PT.ofList .leaf 0 args,[]⟩ h n):cW P O f args h n R:=by
 obtain⟨_,k,x,h',n',e,hx⟩:=H ⟨P,O,none,args.length+(fn.ntmps-args.length),DG P fn.results.toList R⟩ rfl rfl rfl rfl rfl
 obtain⟨_,hx,h2,hd,l,hl,hR⟩:_∧DG P fn.results.toList R x.1 x.2 h' n':=hx
 refine⟨k,oneOf l,h2,n',?_,hR⟩
 simp only[fk,hf,hb]
 rw[e,aM]
 unfold gI
 cases hx1:x.1 with
 |exit i=>rw[hx1] at hx;exact hx.elim
 |normal=>simp only;rw[pO _ _ _ _ hd,aM,mQ hl];rfl
 |ret=>simp only;rw[pO _ _ _ _ hd,aM,mQ hl];rfl
theorem Gq {P:Program} {O:Over} {f:FuncId} {fn:Func} {c:Code} {args:List Value} {h:PT ak} {n N:Nat} {R:Value→PT ak→Nat→Prop} (hf:P.funcs[f]? = some fn) (hb:fn.body=some c) (hN:args.length+(fn.ntmps-args.length)=N)
  (H:∀ z:Zx,z.P=P→z.O=O→z.ro=none→z.N=N→z.Q=DG P fn.results.toList R→fJ z c [] ⟨N,PT.ofList .leaf 0 args,[]⟩ h n):cW P O f args h n R:=by
 subst hN;exact J_ hf hb H
@[go_sem] theorem TX {P:Program} {rs:List ResultVar} {R:Value→PT ak→Nat→Prop} {m:Tm} {h:PT ak} {n:Nat}:DG P rs R .ret m h n↔∃ h2,kX m.eS h=some h2∧∃ l,jl P m h2 rs=some l∧R (oneOf l) h2 n:=by simp[DG]
@[go_sem] theorem Ru {h:PT ak}:kX [] h=some h:=rfl
def kd1 (o:Option ak) (d:Nat) (r:List Nat) (h:PT ak):Option (PT ak):=match o with
 |some .deferred=>kX r (h.set d none)
 | _=>none
@[go_sem] theorem OA {d:Nat} {r:List Nat} {h:PT ak}:kX (d::r) h=kd1 (h.get d) d r h:=rfl
@[go_sem] theorem V8 {d:Nat} {r:List Nat} {h:PT ak}:kd1 (some .deferred) d r h=kX r (h.set d none):=rfl
section
variable {z:Zx} {K:List KF} {m:Tm} {h:PT ak} {n:Nat}
theorem DH {g:Operand} {ps:Array Tmp} {as bd:Code} {f:FuncId} {args:List Value} {fn:Fn} {first captured:Array Value} {R:Value→PT ak→Nat→Prop} (hn:m.n=z.N) (hro:z.ro=none) (hg:aX g=true) (he:m.eval g = .func fn first captured)
  (hc:gS z.P fn captured.toList (first.toList++[.func (.yield (n+1)) ⟨[]⟩ ⟨[]⟩]) = .pure (.enter f args)) (hO:z.O f args=none)
  (hB:cW z.P z.O f args ((h.set n (some .deferred)).set (n+1) (some (.loop .ready none m ps.toList as bd))) (n+2) R)
  (hk:∀ v h' n',R v h' n'→h'.get (n+1)=some (.loop .ready none m ps.toList as bd)∧Rs z K .normal (yD m (n::m.eS)) (h'.set (n+1) (some (.loop .exhausted none m ps.toList as bd))) n'):fJ z (.rangeFunc g ps as bd) K m h n:=by
 obtain⟨k,v,h',n',e,hR⟩:=hB
 obtain⟨hl,hr⟩:=hk v h' n' hR
 refine⟨hn,k+1,(.normal,yD m (n::m.eS)),h'.set (n+1) (some (.loop .exhausted none m ps.toList as bd)),n',?_,hr⟩
 rw[cC]
 simp only[aY,eE,hg,cond_true,hro]
 unfold vw
 simp only[AP.run,S0,aM]
 unfold g_
 simp only[he,hc,AP.bind,AP.run,aM]
 unfold eB
 simp only[hO]
 have e':fk z.P (jW z.P z.O k) 0 f args ⟨(h.set n (some .deferred)).set (n+1) (some (.loop .ready none m ps.toList as bd)),n+1+1,[],[]⟩ = .ok v (S0 h' n'):=e
 rw[e',aM]
 unfold om
 simp only[AP.run,show (S0 h' n').heap=h' from rfl,hl,show Nat.blt (n+1) 0=false from rfl,cond_false,aM]
 rfl
def A2 (P:Program) (O:Over) (l:Nat) (m0:Tm) (as bd:Code) (h:PT ak) (n:Nat) (R:Bool→PT ak→Nat→Prop):Prop:=
 ∃ k b h' n',fN (jW P O k) 0 l m0 as bd (S0 h n) = .ok (.bool b) (S0 h' n')∧R b h' n'
theorem A2.mono {P:Program} {O:Over} {l:Nat} {m0:Tm} {as bd:Code} {R R':Bool→PT ak→Nat→Prop} (e:A2 P O l m0 as bd h n R) (hR:∀ b h' n',R b h' n'→R' b h' n'):A2 P O l m0 as bd h n R':=by
 obtain⟨k,b,h',n',e,r⟩:=e
 exact⟨k,b,h',n',e,hR _ _ _ r⟩
def EvR (z:Zx) (l:Nat) (m0:Tm) (as bd:Code) (d:Option Nat) (ops r:List Oper) (K:List KF) (m:Tm) (h:PT ak) (n:Nat):Prop:=jE z (.pure (.round l m0 as bd)) d ops r K m h n
@[go_sem] theorem V9 {l:Nat} {m0:Tm} {as bd:Code} {d:Option Nat} {ops r:List Oper}:jE z (.pure (.round l m0 as bd)) d ops r K m h n↔EvR z l m0 as bd d ops r K m h n:=Iff.rfl
variable {P:Program}
def ylB (args:List Value) (l:Nat):ak→AP aD
 | .loop _ _ tm ps as bd=>match fB ps args tm with
  |some m => .pure (.round l (yD m []) as bd)
  |none => .fail "yield arguments"
 | _ => .fail "yield loop"
def ylR (l:Nat) (as bd:Code):Option Tm→AP aD
 |some m => .pure (.round l (yD m []) as bd)
 |none => .fail "yield arguments"
@[go_sem] theorem TY {args:List Value} {l:Nat} {st:LoopState} {pe:Option Code} {tm:Tm} {ps:List Tmp} {as bd:Code}:ylB args l (.loop st pe tm ps as bd)=ylR l as bd (fB ps args tm):=by
 show (match fB ps args tm with |some m=>_ |none=>_)=_
 generalize fB ps args tm=o
 cases o<;>rfl
@[go_sem] theorem T0 {l:Nat} {as bd:Code} {m:Tm}:ylR l as bd (some m) = .pure (.round l (yD m []) as bd):=rfl
@[go_sem] theorem Mt {tm:Tm}:fB [] [] tm=some tm:=rfl
end
end Go.Am
set_option linter.unusedSimpArgs false
set_option linter.unusedVariables false
namespace Go.Am
end Go.Am
set_option linter.unusedSimpArgs false
set_option linter.unusedVariables false
namespace Go.Am
class Sp (G:Prop) (p q A B:outParam Prop):Prop where
 sp:(p→A)→(q→B)→G
theorem xs {G p q A B:Prop} [s:Sp G p q A B] (h1:p→A) (h2:q→B):G:=s.sp h1 h2
section
variable {z:Zx} {K:List KF} {m:Tm} {h:PT ak} {n:Nat} {p:Prop} [Decidable p] {a b:Code} {o:Oper} {ops r:List Oper} {t:Bool} {L:List (Nat×Nat)} {fs:List bD}
instance (priority:=low):Sp (yj z (.bool t) a b K m h n) (t=true) (t=false) (fJ z a K m h n) (fJ z b K m h n):=⟨fun h1 h2=>fY h1 h2⟩
instance:Sp (yj z (.bool !t) a b K m h n) (t=false) (t=true) (fJ z a K m h n) (fJ z b K m h n):=⟨fun h1 h2=>fX h1 h2⟩
instance:Sp (yj z (.bool (decide p)) a b K m h n) p (¬p) (fJ z a K m h n) (fJ z b K m h n):=⟨fun h1 h2=>fW h1 h2⟩
instance (priority:=high):Sp (yj z (.bool (decide (¬p))) a b K m h n) (¬p) p (fJ z a K m h n) (fJ z b K m h n):=⟨fun h1 h2=>fV h1 h2⟩
instance (priority:=low):Sp (jI z t o ops r K m h n) (t=true) (t=false) (jI z true o ops r K m h n) (jI z false o ops r K m h n):=⟨fun h1 h2=>gd h1 h2⟩
instance:Sp (jI z (!t) o ops r K m h n) (t=false) (t=true) (jI z true o ops r K m h n) (jI z false o ops r K m h n):=⟨fun h1 h2=>ga h1 h2⟩
instance:Sp (jI z (decide p) o ops r K m h n) p (¬p) (jI z true o ops r K m h n) (jI z false o ops r K m h n):=⟨fun h1 h2=>f_ h1 h2⟩
instance (priority:=high):Sp (jI z (decide (¬p)) o ops r K m h n) (¬p) p (jI z true o ops r K m h n) (jI z false o ops r K m h n):=⟨fun h1 h2=>fZ h1 h2⟩
instance (priority:=low):Sp (jJ z L t o ops r K m h n fs) (t=true) (t=false) (jJ z L true o ops r K m h n fs) (jJ z L false o ops r K m h n fs):=⟨fun h1 h2=>iC h1 h2⟩
instance:Sp (jJ z L (!t) o ops r K m h n fs) (t=false) (t=true) (jJ z L true o ops r K m h n fs) (jJ z L false o ops r K m h n fs):=⟨fun h1 h2=>iB h1 h2⟩
instance:Sp (jJ z L (decide p) o ops r K m h n fs) p (¬p) (jJ z L true o ops r K m h n fs) (jJ z L false o ops r K m h n fs):=⟨fun h1 h2=>iA h1 h2⟩
instance (priority:=high):Sp (jJ z L (decide (¬p)) o ops r K m h n fs) (¬p) p (jJ z L true o ops r K m h n fs) (jJ z L false o ops r K m h n fs):=⟨fun h1 h2=>iz h1 h2⟩
end
class Cl (G:Prop) (z:outParam Zx) (f:outParam FuncId) (args:outParam (List Value)) (m:outParam Tm) (h:outParam (PT ak)) (n:outParam Nat) (R:outParam (Value→PT ak→Nat→Prop)):Prop where
 cl:m.n=z.N→z.O f args=none→cW z.P z.O f args h n R→G
section
variable {z:Zx} {K:List KF} {m:Tm} {h:PT ak} {n:Nat} {f:FuncId} {args:List Value} {d:Option Nat} {ops r:List Oper} {L:List (Nat×Nat)} {lo:Nat} {rd wr:List Nat} {fs:List bD}
instance:Cl (NC z none f args d ops r K m h n) z f args m h n (fun v h' n'=>jE z (.pure (.value v)) d ops r K m h' n'):=⟨fun hm hn e=>yA hm hn e fun _ _ _ q=>q⟩
instance:Cl (Dq z L none f args d ops r K m h n lo rd wr fs) z f args m h n (fun v h' n'=>∀ rd' wr':List Nat,lS z L (.pure (.value v)) d ops r K m h' n' lo rd' wr' fs):=⟨fun hm hn e=>by
 obtain⟨k,v,h',n',e,hR⟩:=e
 exact FJ hm hn e hR⟩
end
theorem iH {G:Prop} {z:Zx} {f:FuncId} {args:List Value} {m:Tm} {h:PT ak} {n:Nat} {R R0:Value→PT ak→Nat→Prop} {P:Program} {O:Over} [c:Cl G z f args m h n R] (e:cW P O f args h n R0) (hP:z.P=P) (hO:z.O=O) (hm:m.n=z.N) (hn:z.O f args=none)
  (hk:∀ v h' n',R0 v h' n'→R v h' n'):G:=by
 subst hP hO
 obtain⟨k,v,h',n',e,q⟩:=e
 exact c.cl hm hn ⟨k,v,h',n',e,hk _ _ _ q⟩
theorem aJ {P:Program} {f:FuncId} {fn:Func} {c:Code} (hf:P.funcs[f]? = some fn) (hb:fn.body=some c) {G:Prop} {z:Zx} {args:List Value} {m:Tm} {h:PT ak} {n:Nat} {R:Value→PT ak→Nat→Prop} [i:Cl G z f args m h n R] (hP:z.P=P) (hm:m.n=z.N) (hn:z.O f args=none)
  (H:∀ y:Zx,y.P=P→y.O=z.O→y.ro=none→y.N=args.length+(fn.ntmps-args.length)→y.Q=Fin P fn.results.toList R→fJ y c [] ⟨args.length+(fn.ntmps-args.length),PT.ofList .leaf 0 args,[]⟩ h n):G:=by
 subst hP
 exact i.cl hm hn (ay hf hb rfl H)
section
variable {P:Program} {ρ:Operand→Value} {d:Option Tmp} {ty:TypeId} {pos:String} {af:Array Edge} {g:Option (Nat×Bool)}
@[go_sem] theorem Ka {r:Operand} {nm:String} {as:Array Operand} {ts:Array TypeId}:(⟨.invoke r nm,as,ts⟩:Call).operands=#[r]++as:=rfl
@[go_sem] theorem OC {r:Operand} {nm:String} {as:Array Operand} {ts:Array TypeId}:jk P ρ ⟨d,.call ⟨.invoke r nm,as,ts⟩,ty,pos,af,g⟩=cL P (ρ r) nm (as.toList.map ρ):=rfl
end
theorem dw {z:Zx} {K:List KF} {m:Tm} {h:PT ak} {n:Nat} (nt id:Nat) (L:List (Nat×Nat)) {ops:Array Oper} (hm:m.n=nt) (hL:aL (aO [] ops.toList) ops.toList.length=L) (hd:fO ops.toList L=true) (e:FC z L ops.toList ops.toList K m h n []):fJ z (.region id ops true) K m h n:=aK hL hd e
abbrev pt (b:Nat):Value := .pointer (some ⟨b,0,none⟩)
abbrev row (L:List Value):Option ak:=some (.cells (PT.ofList .leaf 0 L) false)
abbrev T4 (L:List Value) (ro:Bool):Option ak:=some (.cells (PT.ofList .leaf 0 L) ro)
abbrev I6 (n:Int):Value := .int .i64 n
abbrev U6 (n:Int):Value := .int .u64 n
abbrev U8 (n:Int):Value := .int .u8 n
abbrev nD (l:List Value):Value := .tuple ⟨l⟩
end Go.Am
set_option linter.unusedSimpArgs false
set_option linter.unusedVariables false
namespace Go.Am
theorem ep {z:Zx} {K:List KF} {m:Tm} {h:PT ak} {n:Nat} (id:Nat) {ops:Array Oper} (e:fJ z (.region id ops true) K m h n):fJ z (.region id ops true) K m h n:=e
abbrev Rl:=Nat×Nat
def upd {α:Type} (f:Rl→α) (r:Rl) (x:α):Rl→α:=fun s=>if s=r then x else f s
theorem au {α:Type} {f:Rl→α} {r:Rl} {x:α}:upd f r x r=x:=if_pos rfl
theorem Gr {α:Type} {f:Rl→α} {r s:Rl} {x:α} (h:s≠r):upd f r x s=f s:=if_neg h
theorem aq {α:Type} {f:Rl→α} {a b c d:Nat} {x:α} (h:c≠a):upd f (a,b) x (c,d)=f (c,d):=if_neg fun e=>h (congrArg Prod.fst e)
theorem aT {α:Type} {f:Rl→α} {a b d:Nat} {x:α} (h:d≠b):upd f (a,b) x (a,d)=f (a,d):=if_neg fun e=>h (congrArg Prod.snd e)
theorem iI {α:Type} {f:Rl→α} {r:Rl} {x y:α}:upd (upd f r x) r y=upd f r y:=by funext s;unfold upd;split<;>rfl
theorem OD {α:Type} {f:Rl→α} {r:Rl} {x:α} (h:f r=x):upd f r x=f:=by
 funext s;unfold upd;split
 ·rename_i e;rw[e,h]
 ·rfl
theorem yE {α:Type} {f:Rl→α} {r s:Rl} {x y:α} (h:r≠s):upd (upd f r x) s y=upd (upd f s y) r x:=by
 funext t;unfold upd
 by_cases c1:t=s
 ·by_cases c2:t=r
  ·exact absurd (c2.symm.trans c1) h
  ·rw[if_pos c1,if_neg c2,if_pos c1]
 ·rw[if_neg c1]
  by_cases c2:t=r
  ·rw[if_pos c2,if_pos c2]
  ·rw[if_neg c2,if_neg c2,if_neg c1]
def Df (a b:Nat):Prop:=a≠b
theorem Df.symm {a b:Nat} (h:Df a b):Df b a:=fun e=>h e.symm
structure St (h:PT ak) (n:Nat) (d:Rl→Nat) (C:Rl→Option ak):Prop where
 get:∀ r B,C r=some B→h.get (d r)=some B
 inj:∀ r s,C r≠none→C s≠none→d r=d s→r=s
 wf:bL h n
section
variable {h:PT ak} {n:Nat} {d:Rl→Nat} {C:Rl→Option ak}
theorem St.at (S:St h n d C) {r:Rl} {B:ak} (e:C r=some B):h.get (d r)=some B:=S.get r B e
theorem St.lt (S:St h n d C) {r:Rl} {B:ak} (e:C r=some B):d r<n:=S.wf.lt (S.get r B e)
theorem St.df (S:St h n d C) {r s:Rl} {A B:ak} (e:C r=some A) (f:C s=some B) (k:r≠s):Df (d r) (d s):=fun q=>k (S.inj r s (by rw[e];simp) (by rw[f];simp) q)
theorem St.set (S:St h n d C) (r:Rl) {i:Nat} {A:ak} (B:ak) (e:C r=some A) (hi:d r=i):St (h.set i (some B)) n d (upd C r (some B)):=by
 subst hi
 refine⟨fun s D q=>?_,fun s t q1 q2 q=>?_,S.wf.set (Nat.le_refl _) (S.lt e)⟩
 ·unfold upd at q
  split at q
  ·rename_i c;subst c
   rw[bC];exact q
  ·rename_i c
   rw[aE (S.df q e c).symm];exact S.get s D q
 ·refine S.inj s t ?_ ?_ q
  ·unfold upd at q1
   split at q1
   ·rename_i c;rw[c,e];simp
   ·exact q1
  ·unfold upd at q2
   split at q2
   ·rename_i c;rw[c,e];simp
   ·exact q2
theorem St.kill (S:St h n d C) (r:Rl) {i:Nat} {A:ak} (e:C r=some A) (hi:d r=i):St (h.set i none) n d (upd C r none):=by
 subst hi
 refine⟨fun s D q=>?_,fun s t q1 q2 q=>?_,S.wf.set (Nat.le_refl _) (S.lt e)⟩
 ·unfold upd at q
  split at q
  ·simp at q
  ·rename_i c
   rw[aE (S.df q e c).symm];exact S.get s D q
 ·refine S.inj s t ?_ ?_ q
  ·unfold upd at q1
   split at q1
   ·exact absurd rfl q1
   ·exact q1
  ·unfold upd at q2
   split at q2
   ·exact absurd rfl q2
   ·exact q2
theorem St.new (S:St h n d C) (r:Rl) {i m:Nat} (B:ak) (hi:n≤i) (hm:i<m):St (h.set i (some B)) m (upd d r i) (upd C r (some B)):=by
 refine⟨fun s D q=>?_,fun s t q1 q2 q=>?_,S.wf.set (by omega) hm⟩
 ·unfold upd at q ⊢
  split at q
  ·rename_i c;rw[if_pos c,bC];exact q
  ·rename_i c
   have:=S.lt q
   rw[if_neg c,aE (by omega)];exact S.get s D q
 ·unfold upd at q q1 q2
  by_cases c1:s=r
  ·by_cases c2:t=r
   ·rw[c1,c2]
   ·rw[if_pos c1,if_neg c2] at q
    rw[if_neg c2] at q2
    obtain⟨B',hB⟩:=Option.ne_none_iff_exists'.1 q2
    have:=S.lt hB
    omega
  ·by_cases c2:t=r
   ·rw[if_neg c1,if_pos c2] at q
    rw[if_neg c1] at q1
    obtain⟨B',hB⟩:=Option.ne_none_iff_exists'.1 q1
    have:=S.lt hB
    omega
   ·rw[if_neg c1,if_neg c2] at q
    rw[if_neg c1] at q1
    rw[if_neg c2] at q2
    exact S.inj s t q1 q2 q
theorem St.junk (S:St h n d C) {i m:Nat} {B:Option ak} (hi:n≤i) (hm:i<m):St (h.set i B) m d C:=by
 refine⟨fun s D q=>?_,S.inj,S.wf.set (by omega) hm⟩
 have:=S.lt q
 rw[aE (by omega)];exact S.get s D q
theorem St.mono (S:St h n d C) {m:Nat} (hm:n≤m):St h m d C:=⟨S.get,S.inj,S.wf.mono hm⟩
theorem St.drop (S:St h n d C) (r:Rl):St h n d (upd C r none):=by
 refine⟨fun s D q=>?_,fun s t q1 q2 q=>?_,S.wf⟩
 ·unfold upd at q
  split at q
  ·simp at q
  ·exact S.get s D q
 ·unfold upd at q1 q2
  split at q1
  ·exact absurd rfl q1
  ·split at q2
   ·exact absurd rfl q2
   ·exact S.inj s t q1 q2 q
theorem St.kept (S:St h n d C) {h':PT ak} {n':Nat} (k:Kept h h') (w:bL h' n'):St h' n' d C:=⟨fun r B q=>k _ _ (S.get r B q),S.inj,w⟩
theorem St.eq (S:St h n d C) {d':Rl→Nat} {C':Rl→Option ak} (e:C=C') (e2:d=d'):St h n d' C':=by subst e e2;exact S
end
theorem St.one {h:PT ak} {n i:Nat} {B:ak} (r:Rl) (w:bL h n) (e:h.get i=some B):St h n (fun _=>i) (upd (fun _=>none) r (some B)):=by
 refine⟨fun s D q=>?_,fun s t q1 q2 q=>?_,w⟩
 ·unfold upd at q
  split at q
  ·rw[←Option.some.inj q];exact e
  ·simp at q
 ·unfold upd at q1 q2
  split at q1
  ·rename_i c
   split at q2
   ·rename_i c2;rw[c,c2]
   ·exact absurd rfl q2
  ·exact absurd rfl q1
theorem St.none {h:PT ak} {n:Nat} (d:Rl→Nat) (w:bL h n):St h n d (fun _=>none):=⟨fun r B q=>by simp at q,fun r s q1=>absurd rfl q1,w⟩
end Go.Am
set_option linter.unusedSimpArgs false
set_option linter.unusedVariables false
namespace Go.Am
abbrev bG:=Int×Value×Nat
def bP (k:IntKind) (l:List bG):List (Value×Value×Nat):=l.map fun e=>(.int k e.1,e.2.1,e.2.2)
def bg (x:Int):List bG→Nat→Option (Nat×Value)
 | [],_=>none
 |e::l,i=>if x=e.1 then some (i,e.2.1) else bg x l (i+1)
theorem gU {kk k:IntKind} {x:Int}:∀ (l:List bG) (i:Nat),iY (.int kk) (.int k x) (bP k l) i=some (bg x l i)
 | [],i=>rfl
 |e::l,i=>by
  have ih:=gU (kk:=kk) (k:=k) (x:=x) l (i+1)
  unfold bP at*
  rw[List.map_cons,iY,bg]
  simp only[Instr.sameNow,if_true]
  by_cases c:x=e.1
  ·rw[if_pos c,show (x==e.1)=true by simpa using c]
  ·rw[if_neg c,show (x==e.1)=false by simpa using c];exact ih
theorem nV {x:Int}:∀ {l:List bG} {i:Nat},(∀ e∈l,e.1≠x)→bg x l i=none
 | [],_,_=>rfl
 |e::l,i,h=>by rw[bg,if_neg (fun c=>h e (by simp) c.symm)];exact nV fun y hy=>h y (by simp[hy])
theorem A3 {k:IntKind} (l:List bG) (j:Nat):(bP k l).eraseIdx j=bP k (l.eraseIdx j):=by
 unfold bP
 induction l generalizing j with
 |nil=>rfl
 |cons e l ih=>cases j with
  |zero=>rfl
  |succ j=>simp only[List.map_cons,List.eraseIdx_cons_succ,ih j]
theorem sX {k:IntKind} {x:Int} {v:Value}:∀ (l:List bG) (j:Nat),ey (.int k x) v (bP k l) j=bP k (match l[j]? with |some e=>l.set j (x,v,e.2.2) |none=>l)
 | [],j=>rfl
 |e::l,0=>rfl
 |e::l,j+1=>by
  have ih:=sX (k:=k) (x:=x) (v:=v) l j
  unfold bP at*
  simp only[List.map_cons,ey,ih,List.getElem?_cons_succ]
  cases l[j]? <;> simp
theorem uV {k:IntKind} {x:Int} {v:Value} {c:Nat} (l:List bG):bP k l++[(.int k x,v,c)]=bP k (l++[(x,v,c)]):=by simp[bP]
section
variable {P:Program} {t kt et:TypeId} {k:IntKind} {r:Nat} {x:Int} {v:Value} {ok:Bool}
theorem lkI (h1:P.underlying t=some (.map kt et)) (h2:P.underlying kt=some (.int k)):Rr P t (.map (some r)) (.int k x) ok = .get r (Oy P (.int k) et (.int k x) ok):=J7 h1 h2 rfl
theorem Kc {l:List bG} {c:Nat}:Oy P (.int k) et (.int k x) ok (.map (bP k l) c)=DF P et ok (some (bg x l 0)):=by rw[J8];exact congrArg (DF P et ok) (gU l 0)
theorem Ke {l:List bG} {c:Nat}:Oz P r (.int k) (.int k x) v (.map (bP k l) c)=Rt r true (.int k x) v (bP k l) c (some (bg x l 0)):=by rw[J9];exact congrArg (Rt r true (.int k x) v (bP k l) c) (gU l 0)
def dlB (P:Program) (r:Nat) (kd:TypeDesc) (k:Value):ak→AP aD
 | .map es clk=>match cH P kd k es 0 with
  |some (some (i,_)) => .set r (.map (es.eraseIdx i) clk) (.pure (.value (.tuple ⟨[]⟩)))
  |some none => .pure (.value (.tuple ⟨[]⟩))
  |none => .fail "delete"
 | _ => .fail "delete"
def V_ (r:Nat) (l:List bG) (k:IntKind) (c:Nat):Option (Nat×Value)→AP aD
 |some (i,_) => .set r (.map (bP k (l.eraseIdx i)) c) (.pure (.value (.tuple ⟨[]⟩)))
 |none => .pure (.value (.tuple ⟨[]⟩))
theorem Kf {l:List bG} {c:Nat}:dlB P r (.int k) (.int k x) (.map (bP k l) c)=V_ r l k c (bg x l 0):=by
 unfold dlB
 simp only
 rw[show cH P (.int k) (.int k x) (bP k l) 0=some (bg x l 0) from gU l 0]
 cases bg x l 0 with
 |none=>rfl
 |some q=>simp only[V_,A3]
end
end Go.Am
set_option linter.unusedSimpArgs false
set_option linter.unusedVariables false
namespace Go.Am
def Wa (u:Option TypeDesc) (t:TypeId) (x:Value):AP aD:=match u with
 |some (.interface _) => .fail "makeInterface"
 |some _ => .pure (.value (.iface t x))
 |none => .fail "makeInterface"
@[go_sem] theorem Wb {e t:TypeId} {x:Value}:Wa (some (.pointer e)) t x = .pure (.value (.iface t x)):=rfl
@[go_sem] theorem OE {fs:Array Field} {t:TypeId} {x:Value}:Wa (some (.struct fs)) t x = .pure (.value (.iface t x)):=rfl
@[go_sem] theorem Wc {P:Program} {ρ:Operand→Value} {d:Option Tmp} {ty t:TypeId} {x:Operand} {pos:String} {af:Array Edge} {g:Option (Nat×Bool)}:jk P ρ ⟨d,.makeInterface t x,ty,pos,af,g⟩=Wa (P.underlying t) t (ρ x):=by
 show (cR P t (ρ x)).bind _=_
 unfold cR Wa
 cases P.underlying t with
 |none=>rfl
 |some u=>cases u<;>rfl
section
variable {P:Program} {t:TypeId} {cx cy:Bool}
def Kg (u:Option TypeDesc) (b:Bool):AP aD:=match u with
 |some (.func _ _ _) => .pure (.value (.bool b))
 | _ => .fail "equal"
@[go_sem] theorem T5 {ps rs:Array TypeId} {v b:Bool}:Kg (some (.func ps rs v)) b = .pure (.value (.bool b)):=rfl
theorem B8 {f:Fn} {a b:Array Value} (D:Nat):bN P (D+1) t (.func f a b) .nilFunc=match P.underlying t with |some (.func _ _ _) => .pure false | _ => .fail "equal":=by
 unfold bN
 cases P.underlying t with
 |none=>rfl
 |some u=>cases u<;>rfl
theorem B9 (D:Nat):bN P (D+1) t .nilFunc .nilFunc=match P.underlying t with |some (.func _ _ _) => .pure true | _ => .fail "equal":=by
 unfold bN
 cases P.underlying t with
 |none=>rfl
 |some u=>cases u<;>rfl
@[go_sem] theorem OG {f:Fn} {a b:Array Value}:cY P .eql t cx cy (.func f a b) .nilFunc=Kg (P.underlying t) false:=by
 have q:cY P .eql t cx cy (.func f a b) .nilFunc=AP.bind ((bN P (11+1) t (.func f a b) .nilFunc).bind fun b => .pure (.bool b)) fun v => .pure (.value v):=by simp only[cY,dR,bR,cond_true]
 rw[q,B8];unfold Kg
 cases P.underlying t with
 |none=>rfl
 |some u=>cases u<;>rfl
@[go_sem] theorem OH {f:Fn} {a b:Array Value}:cY P .neq t cx cy (.func f a b) .nilFunc=Kg (P.underlying t) true:=by
 have q:cY P .neq t cx cy (.func f a b) .nilFunc=AP.bind ((bN P (11+1) t (.func f a b) .nilFunc).bind fun b => .pure (.bool !b)) fun v => .pure (.value v):=by simp only[cY,dR,bR,cond_true]
 rw[q,B8];unfold Kg
 cases P.underlying t with
 |none=>rfl
 |some u=>cases u<;>rfl
@[go_sem] theorem OI:cY P .eql t cx cy .nilFunc .nilFunc=Kg (P.underlying t) true:=by
 have q:cY P .eql t cx cy .nilFunc .nilFunc=AP.bind ((bN P (11+1) t .nilFunc .nilFunc).bind fun b => .pure (.bool b)) fun v => .pure (.value v):=by simp only[cY,dR,bR,cond_true]
 rw[q,B9];unfold Kg
 cases P.underlying t with
 |none=>rfl
 |some u=>cases u<;>rfl
@[go_sem] theorem OJ:cY P .neq t cx cy .nilFunc .nilFunc=Kg (P.underlying t) false:=by
 have q:cY P .neq t cx cy .nilFunc .nilFunc=AP.bind ((bN P (11+1) t .nilFunc .nilFunc).bind fun b => .pure (.bool !b)) fun v => .pure (.value v):=by simp only[cY,dR,bR,cond_true]
 rw[q,B9];unfold Kg
 cases P.underlying t with
 |none=>rfl
 |some u=>cases u<;>rfl
end
@[go_sem] theorem OL {P:Program} {ρ:Operand→Value} {d:Option Tmp} {ty t:TypeId} {x i v:Operand} {pos:String} {af:Array Edge} {g:Option (Nat×Bool)}:jk P ρ ⟨d,.insert t x i v,ty,pos,af,g⟩=muQ P t (ρ x) (ρ i) (ρ v):=rfl
theorem A4 {α:Type} {h0 h:PT ak} {n0:Nat} (hk:Kept h0 h) (hw:bL h0 n0):∀ {p:AP α} {a:α} {rd:List Nat},p.look h0=some a→(∀ x∈rd,x<n0)→∀ x∈p.ids h rd,x<n0
 | .pure b,a,rd,_,hr=>hr
 | .fail w,a,rd,e,_=>by simp[AP.look] at e
 | .set ..,a,rd,e,_=>by simp[AP.look] at e
 | .kill ..,a,rd,e,_=>by simp[AP.look] at e
 | .new ..,a,rd,e,_=>by simp[AP.look] at e
 | .get id k,a,rd,e,hr=>by
  simp only[AP.look] at e
  cases hb:h0.get id with
  |none=>rw[hb] at e;simp at e
  |some b=>
   rw[hb] at e
   simp only[AP.ids,hk _ _ hb]
   exact A4 hk hw e fun x hx=>by
    rcases List.mem_cons.1 hx with rfl |hx
    ·exact hw.lt hb
    ·exact hr x hx
theorem sY {α:Type} {p:AP α} {a:α} {h0 h:PT ak} {n0 lo hi:Nat} (hs:p.look h0=some a) (hw:bL h0 n0) (hk:Kept h0 h) (hl:n0≤lo):bw (p.ids h []) lo hi=false:=by
 unfold bw
 rw[List.any_eq_false]
 intro x hx
 have:=A4 hk hw hs (rd:=[]) (by simp) x hx
 simp[ec (show x<lo by omega)]
theorem A5 {α:Type} {p:AP α} {a:α} {h0 h:PT ak} {n0:Nat} {ws:List Nat} (hs:p.look h0=some a) (hw:bL h0 n0) (hk:Kept h0 h) (hl:ws.all (fun x=>decide (n0≤x))=true):meets (p.ids h []) ws=false:=by
 unfold meets
 rw[List.any_eq_false]
 intro x hx
 have:=A4 hk hw hs (rd:=[]) (by simp) x hx
 rw[Bool.not_eq_true,List.any_eq_false]
 intro y hy
 have hy:=of_decide_eq_true (List.all_eq_true.1 hl y hy)
 intro c
 have:=Nat.eq_of_beq_eq_true c
 omega
theorem St.T6 {h:PT ak} {n:Nat} {d:Rl→Nat} {C:Rl→Option ak} (S:St h n d C) {i m:Nat} {A B:Option ak} (hi:n≤i) (hm:i<m):St ((h.set i A).set i B) m d C:=by
 refine⟨fun s D q=>?_,S.inj,(S.wf.set (by omega) hm).set (Nat.le_refl _) hm⟩
 have:=S.lt q
 rw[aE (by omega),aE (by omega)];exact S.get s D q
end Go.Am
