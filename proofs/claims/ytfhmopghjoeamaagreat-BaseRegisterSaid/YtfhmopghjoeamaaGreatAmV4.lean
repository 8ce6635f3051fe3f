/-
  A part of the proof: contracts of inner functions.
-/
import Derived.Test.YtfhmopghjoeamaaGreatAmU5
import Derived.Test.YtfhmopghjoeamaaGreatAmU6
import Derived.Test.YtfhmopghjoeamaaGreatAmY3
import Derived.Test.YtfhmopghjoeamaaGreatAmY4
set_option linter.unusedSimpArgs false
set_option linter.unusedVariables false
namespace Go.Am
open Go.RowKit
end Go.Am
set_option linter.unusedSimpArgs false
set_option linter.unusedVariables false
namespace Go.Am
section
variable {P:Program} {ρ:Operand→Value} {d:Option Tmp} {ty:TypeId} {pos:String} {af:Array Edge} {g:Option (Nat×Bool)}
@[go_sem] theorem HO {t:TypeId}:iE P ρ ⟨d,.makeMap t none,ty,pos,af,g⟩ = .new (.map [] 0) fun id => .pure (.value (.map (some id))):=rfl
def HP (P:Program) (t:TypeId) (x k:Value) (ok:Bool):AP aE:=(lY P t x k ok).bind fun v => .pure (.value v)
@[go_sem] theorem JI {t:TypeId} {x i:Operand} {ok:Bool}:iE P ρ ⟨d,.lookup t x i ok,ty,pos,af,g⟩=HP P t (ρ x) (ρ i) ok:=rfl
def FL (P:Program) (t:TypeId) (x k v:Value):AP aE:=(gH P t x k v).bind fun _ => .pure .skip
@[go_sem] theorem Ep {t:TypeId} {x i v:Operand}:iE P ρ ⟨d,.mapUpdate t x i v,ty,pos,af,g⟩=FL P t (ρ x) (ρ i) (ρ v):=rfl
def As (P:Program) (et:TypeId) (ok:Bool):Option (Option (Nat×Value))→AP aE
 |some (some (_,v)) => .pure (.value (cond ok (.tuple ⟨[v,.bool true]⟩) v))
 |some none=>match zeroOf P et with
  |some z => .pure (.value (cond ok (.tuple ⟨[z,.bool false]⟩) z))
  |none => .fail "lookup"
 |none => .fail "lookup"
def FM (P:Program) (kd:TypeDesc) (et:TypeId) (k:Value) (ok:Bool):aj→AP aE
 | .map es _=>As P et ok (bN P kd k es 0)
 | _ => .fail "map block"
theorem FN {t kt et:TypeId} {kd:TypeDesc} {r:Nat} {k:Value} {ok:Bool} (h1:P.underlying t=some (.map kt et)) (h2:P.underlying kt=some kd) (h3:iH P kt kd k=true):HP P t (.map (some r)) k ok = .get r (FM P kd et k ok):=by
 unfold HP lY kC
 simp only[h1,h2,h3,cond_true,AP.bind]
 congr 1
 funext b
 cases b with
 |map es c=>
  simp only[AP.bind,FM]
  unfold As
  cases bN P kd k es 0 with
  |none=>rfl
  |some q=>
   cases q with
   |none=>simp only;cases zeroOf P et<;>rfl
   |some p=>rfl
 | _=>rfl
theorem FO {kd:TypeDesc} {et:TypeId} {k:Value} {ok:Bool} {es:List (Value×Value×Nat)} {c:Nat}:FM P kd et k ok (.map es c)=As P et ok (bN P kd k es 0):=rfl
def JJ (r:Nat) (simple:Bool) (k v:Value) (es:List (Value×Value×Nat)) (clk:Nat):Option (Option (Nat×Value))→AP aE
 |some (some (i,_))=>cond simple (.set r (.map (cZ k v es i) clk) (.pure .skip)) (.fail "mapUpdate")
 |some none => .set r (.map (es++[(k,v,clk)]) (clk+1)) (.pure .skip)
 |none => .fail "mapUpdate"
def yX (P:Program) (r:Nat) (kd:TypeDesc) (k v:Value):aj→AP aE
 | .map es clk=>JJ r (simpleKey kd) k v es clk (bN P kd k es 0)
 | _ => .fail "mapUpdate"
theorem FP {t kt et:TypeId} {kd:TypeDesc} {r:Nat} {k v:Value} (h1:P.underlying t=some (.map kt et)) (h2:P.underlying kt=some kd) (h3:iH P kt kd k=true):FL P t (.map (some r)) k v = .get r (yX P r kd k v):=by
 unfold FL gH
 simp only[h1,h2,h3,cond_true,AP.bind]
 congr 1
 funext b
 cases b with
 |map es c=>
  simp only[yX]
  unfold JJ
  cases bN P kd k es 0 with
  |none=>rfl
  |some q=>
   cases q with
   |none=>rfl
   |some p=>simp only;cases simpleKey kd<;>rfl
 | _=>rfl
theorem FQ {r:Nat} {kd:TypeDesc} {k v:Value} {es:List (Value×Value×Nat)} {c:Nat}:yX P r kd k v (.map es c)=JJ r (simpleKey kd) k v es c (bN P kd k es 0):=rfl
def mlB:aj→AP aE
 | .map es _ => .pure (.value (.int .i64 es.length))
 | _ => .fail "map block"
@[go_sem] theorem Qy {es:List (Value×Value×Nat)} {c:Nat}:mlB (.map es c) = .pure (.value (.int .i64 es.length)):=rfl
end
end Go.Am
set_option linter.unusedSimpArgs false
set_option linter.unusedVariables false
namespace Go.Am
def Au (m:Tm) (d:List Nat):Tm:={ m with fO:=d }
@[go_sem] theorem Us {m:Tm} {d:List Nat}:(Au m d).n=m.n:=rfl
@[go_sem] theorem Og {m:Tm} {d:List Nat}:(Au m d).fO=d:=rfl
@[go_sem] theorem Oh {m:Tm} {d:List Nat} {i:Nat}:(Au m d).get i=m.get i:=rfl
def vr:List Nat→PT aj→Option (PT aj)
 | [],h=>some h
 |d::r,h=>match h.get d with
  |some .deferred=>vr r (h.set d none)
  | _=>none
@[go_sem] theorem LX {h:PT aj}:vr [] h=some h:=rfl
def X2 (o:Option aj) (d:Nat) (r:List Nat) (h:PT aj):Option (PT aj):=match o with
 |some .deferred=>vr r (h.set d none)
 | _=>none
@[go_sem] theorem JK {d:Nat} {r:List Nat} {h:PT aj}:vr (d::r) h=X2 (h.get d) d r h:=rfl
@[go_sem] theorem Qz {d:Nat} {r:List Nat} {h:PT aj}:X2 (some .deferred) d r h=vr r (h.set d none):=rfl
section
variable {z:Zx} {K:List KF} {m:Tm} {h:PT aj} {n:Nat}
def x9 (P:Program) (O:Over) (l:Nat) (m0:Tm) (as bd:Code) (h:PT aj) (n:Nat) (R:Bool→PT aj→Nat→Prop):Prop:=
 ∃ k b h' n',eD (jL P O k) 0 l m0 as bd (S0 h n) = .ok (.bool b) (S0 h' n')∧R b h' n'
theorem x9.mono {P:Program} {O:Over} {l:Nat} {m0:Tm} {as bd:Code} {R R':Bool→PT aj→Nat→Prop} (e:x9 P O l m0 as bd h n R) (hR:∀ b h' n',R b h' n'→R' b h' n'):x9 P O l m0 as bd h n R':=by
 obtain⟨k,b,h',n',e,r⟩:=e
 exact⟨k,b,h',n',e,hR _ _ _ r⟩
def EvR (z:Zx) (l:Nat) (m0:Tm) (as bd:Code) (d:Option Nat) (ops r:List Oper) (K:List KF) (m:Tm) (h:PT aj) (n:Nat):Prop:=iC z (.pure (.round l m0 as bd)) d ops r K m h n
@[go_sem] theorem QA {l:Nat} {m0:Tm} {as bd:Code} {d:Option Nat} {ops r:List Oper}:iC z (.pure (.round l m0 as bd)) d ops r K m h n↔EvR z l m0 as bd d ops r K m h n:=Iff.rfl
variable {P:Program}
def ylB (args:List Value) (l:Nat):aj→AP aE
 | .loop _ _ tm ps as bd=>match dW ps args tm with
  |some m => .pure (.round l (Au m []) as bd)
  |none => .fail "yield arguments"
 | _ => .fail "yield loop"
def X3 (l:Nat) (as bd:Code):Option Tm→AP aE
 |some m => .pure (.round l (Au m []) as bd)
 |none => .fail "yield arguments"
@[go_sem] theorem Oi {args:List Value} {l:Nat} {st:LoopState} {pe:Option Code} {tm:Tm} {ps:List Tmp} {as bd:Code}:ylB args l (.loop st pe tm ps as bd)=X3 l as bd (dW ps args tm):=by
 show (match dW ps args tm with |some m=>_ |none=>_)=_
 generalize dW ps args tm=o
 cases o<;>rfl
@[go_sem] theorem Oj {l:Nat} {as bd:Code} {m:Tm}:X3 l as bd (some m) = .pure (.round l (Au m []) as bd):=rfl
@[go_sem] theorem HQ {tm:Tm}:dW [] [] tm=some tm:=rfl
end
end Go.Am
set_option linter.unusedSimpArgs false
set_option linter.unusedVariables false
namespace Go.Am
end Go.Am
set_option linter.unusedSimpArgs false
set_option linter.unusedVariables false
namespace Go.Am
class Sp (G:Prop) (p q A B:outParam Prop):Prop where
 sp:(p→A)→(q→B)→G
theorem xs {G p q A B:Prop} [s:Sp G p q A B] (h1:p→A) (h2:q→B):G:=s.sp h1 h2
section
variable {z:Zx} {K:List KF} {m:Tm} {h:PT aj} {n:Nat} {p:Prop} [Decidable p] {a b:Code} {o:Oper} {ops r:List Oper} {t:Bool} {L:List (Nat×Nat)} {fs:List bI}
instance (priority:=low):Sp (tI z (.bool t) a b K m h n) (t=true) (t=false) (ez z a K m h n) (ez z b K m h n):=⟨fun h1 h2=>fV h1 h2⟩
instance:Sp (tI z (.bool !t) a b K m h n) (t=false) (t=true) (ez z a K m h n) (ez z b K m h n):=⟨fun h1 h2=>fU h1 h2⟩
instance:Sp (tI z (.bool (decide p)) a b K m h n) p (¬p) (ez z a K m h n) (ez z b K m h n):=⟨fun h1 h2=>fT h1 h2⟩
instance (priority:=high):Sp (tI z (.bool (decide (¬p))) a b K m h n) (¬p) p (ez z a K m h n) (ez z b K m h n):=⟨fun h1 h2=>fS h1 h2⟩
instance (priority:=low):Sp (iF z t o ops r K m h n) (t=true) (t=false) (iF z true o ops r K m h n) (iF z false o ops r K m h n):=⟨fun h1 h2=>fZ h1 h2⟩
instance:Sp (iF z (!t) o ops r K m h n) (t=false) (t=true) (iF z true o ops r K m h n) (iF z false o ops r K m h n):=⟨fun h1 h2=>fY h1 h2⟩
instance:Sp (iF z (decide p) o ops r K m h n) p (¬p) (iF z true o ops r K m h n) (iF z false o ops r K m h n):=⟨fun h1 h2=>fX h1 h2⟩
instance (priority:=high):Sp (iF z (decide (¬p)) o ops r K m h n) (¬p) p (iF z true o ops r K m h n) (iF z false o ops r K m h n):=⟨fun h1 h2=>fW h1 h2⟩
instance (priority:=low):Sp (iG z L t o ops r K m h n fs) (t=true) (t=false) (iG z L true o ops r K m h n fs) (iG z L false o ops r K m h n fs):=⟨fun h1 h2=>iZ h1 h2⟩
instance:Sp (iG z L (!t) o ops r K m h n fs) (t=false) (t=true) (iG z L true o ops r K m h n fs) (iG z L false o ops r K m h n fs):=⟨fun h1 h2=>iY h1 h2⟩
instance:Sp (iG z L (decide p) o ops r K m h n fs) p (¬p) (iG z L true o ops r K m h n fs) (iG z L false o ops r K m h n fs):=⟨fun h1 h2=>iX h1 h2⟩
instance (priority:=high):Sp (iG z L (decide (¬p)) o ops r K m h n fs) (¬p) p (iG z L true o ops r K m h n fs) (iG z L false o ops r K m h n fs):=⟨fun h1 h2=>iW h1 h2⟩
end
class Cl (G:Prop) (z:outParam Zx) (f:outParam FuncId) (args:outParam (List Value)) (m:outParam Tm) (h:outParam (PT aj)) (n:outParam Nat) (R:outParam (Value→PT aj→Nat→Prop)):Prop where
 cl:m.n=z.N→z.O f args=none→cT z.P z.O f args h n R→G
section
variable {z:Zx} {K:List KF} {m:Tm} {h:PT aj} {n:Nat} {f:FuncId} {args:List Value} {d:Option Nat} {ops r:List Oper} {L:List (Nat×Nat)} {lo:Nat} {rd wr:List Nat} {fs:List bI}
instance:Cl (I3 z none f args d ops r K m h n) z f args m h n (fun v h' n'=>iC z (.pure (.value v)) d ops r K m h' n'):=⟨fun hm hn e=>vm hm hn e fun _ _ _ q=>q⟩
instance:Cl (z_ z L none f args d ops r K m h n lo rd wr fs) z f args m h n (fun v h' n'=>∀ rd' wr':List Nat,jZ z L (.pure (.value v)) d ops r K m h' n' lo rd' wr' fs):=⟨fun hm hn e=>by
 obtain⟨k,v,h',n',e,hR⟩:=e
 exact Cw hm hn e hR⟩
end
theorem fL {G:Prop} {z:Zx} {f:FuncId} {args:List Value} {m:Tm} {h:PT aj} {n:Nat} {R R0:Value→PT aj→Nat→Prop} {P:Program} {O:Over} [c:Cl G z f args m h n R] (e:cT P O f args h n R0) (hP:z.P=P) (hO:z.O=O) (hm:m.n=z.N) (hn:z.O f args=none)
  (hk:∀ v h' n',R0 v h' n'→R v h' n'):G:=by
 subst hP hO
 obtain⟨k,v,h',n',e,q⟩:=e
 exact c.cl hm hn ⟨k,v,h',n',e,hk _ _ _ q⟩
theorem aC {P:Program} {f:FuncId} {fn:Func} {c:Code} (hf:P.funcs[f]? = some fn) (hb:fn.body=some c) {G:Prop} {z:Zx} {args:List Value} {m:Tm} {h:PT aj} {n:Nat} {R:Value→PT aj→Nat→Prop} [i:Cl G z f args m h n R] (hP:z.P=P) (hm:m.n=z.N) (hn:z.O f args=none)
  (H:∀ y:Zx,y.P=P→y.O=z.O→y.ro=none→y.N=args.length+(fn.ntmps-args.length)→y.Q=Fin P fn.results.toList R→ez y c [] ⟨args.length+(fn.ntmps-args.length),PT.ofList .leaf 0 args,[]⟩ h n):G:=by
 subst hP
 exact i.cl hm hn (aB hf hb rfl H)
section
variable {P:Program} {ρ:Operand→Value} {d:Option Tmp} {ty:TypeId} {pos:String} {af:Array Edge} {g:Option (Nat×Bool)}
@[go_sem] theorem FR {r:Operand} {nm:String} {as:Array Operand} {ts:Array TypeId}:(⟨.invoke r nm,as,ts⟩:Call).operands=#[r]++as:=rfl
@[go_sem] theorem JL {r:Operand} {nm:String} {as:Array Operand} {ts:Array TypeId}:iE P ρ ⟨d,.call ⟨.invoke r nm,as,ts⟩,ty,pos,af,g⟩=dF P (ρ r) nm (as.toList.map ρ):=rfl
end
theorem dw {z:Zx} {K:List KF} {m:Tm} {h:PT aj} {n:Nat} (nt id:Nat) (L:List (Nat×Nat)) {ops:Array Oper} (hm:m.n=nt) (hL:aP (aN [] ops.toList) ops.toList.length=L) (hd:gK ops.toList L=true) (e:Co z L ops.toList ops.toList K m h n []):ez z (.region id ops true) K m h n:=aG hL hd e
abbrev pt (b:Nat):Value := .pointer (some ⟨b,0,none⟩)
abbrev row (L:List Value):Option aj:=some (.cells (PT.ofList .leaf 0 L) false)
abbrev Ol (L:List Value) (ro:Bool):Option aj:=some (.cells (PT.ofList .leaf 0 L) ro)
abbrev I6 (n:Int):Value := .int .i64 n
abbrev U6 (n:Int):Value := .int .u64 n
abbrev U8 (n:Int):Value := .int .u8 n
abbrev oF (l:List Value):Value := .tuple ⟨l⟩
end Go.Am
set_option linter.unusedSimpArgs false
set_option linter.unusedVariables false
namespace Go.Am
theorem dA {z:Zx} {K:List KF} {m:Tm} {h:PT aj} {n:Nat} (id:Nat) {ops:Array Oper} (e:ez z (.region id ops true) K m h n):ez z (.region id ops true) K m h n:=e
abbrev Rl:=Nat×Nat
def upd {α:Type} (f:Rl→α) (r:Rl) (x:α):Rl→α:=fun s=>if s=r then x else f s
theorem au {α:Type} {f:Rl→α} {r:Rl} {x:α}:upd f r x r=x:=if_pos rfl
theorem Dh {α:Type} {f:Rl→α} {r s:Rl} {x:α} (h:s≠r):upd f r x s=f s:=if_neg h
theorem aq {α:Type} {f:Rl→α} {a b c d:Nat} {x:α} (h:c≠a):upd f (a,b) x (c,d)=f (c,d):=if_neg fun e=>h (congrArg Prod.fst e)
theorem aJ {α:Type} {f:Rl→α} {a b d:Nat} {x:α} (h:d≠b):upd f (a,b) x (a,d)=f (a,d):=if_neg fun e=>h (congrArg Prod.snd e)
theorem gd {α:Type} {f:Rl→α} {r:Rl} {x y:α}:upd (upd f r x) r y=upd f r y:=by funext s;unfold upd;split<;>rfl
theorem JM {α:Type} {f:Rl→α} {r:Rl} {x:α} (h:f r=x):upd f r x=f:=by
 funext s;unfold upd;split
 ·rename_i e;rw[e,h]
 ·rfl
theorem vu {α:Type} {f:Rl→α} {r s:Rl} {x y:α} (h:r≠s):upd (upd f r x) s y=upd (upd f s y) r x:=by
 funext t;unfold upd
 by_cases c1:t=s
 ·by_cases c2:t=r
  ·exact absurd (c2.symm.trans c1) h
  ·rw[if_pos c1,if_neg c2,if_pos c1]
 ·rw[if_neg c1]
  by_cases c2:t=r
  ·rw[if_pos c2,if_pos c2]
  ·rw[if_neg c2,if_neg c2,if_neg c1]
def Df (a b:Nat):Prop:=a≠b
theorem Df.symm {a b:Nat} (h:Df a b):Df b a:=fun e=>h e.symm
@[go_sem] theorem QB {h:PT aj} {i j:Nat} {b:Option aj} (hd:Df i j):(h.set i b).get j=h.get j:=bf hd
@[go_sem] theorem Om {h:PT aj} {i j:Nat} {b:Option aj} (hd:Df j i):(h.set i b).get j=h.get j:=bf fun e=>hd e.symm
structure St (h:PT aj) (n:Nat) (d:Rl→Nat) (C:Rl→Option aj):Prop where
 get:∀ r B,C r=some B→h.get (d r)=some B
 inj:∀ r s,C r≠none→C s≠none→d r=d s→r=s
 wf:bX h n
section
variable {h:PT aj} {n:Nat} {d:Rl→Nat} {C:Rl→Option aj}
theorem St.at (S:St h n d C) {r:Rl} {B:aj} (e:C r=some B):h.get (d r)=some B:=S.get r B e
theorem St.lt (S:St h n d C) {r:Rl} {B:aj} (e:C r=some B):d r<n:=S.wf.lt (S.get r B e)
theorem St.df (S:St h n d C) {r s:Rl} {A B:aj} (e:C r=some A) (f:C s=some B) (k:r≠s):Df (d r) (d s):=fun q=>k (S.inj r s (by rw[e];simp) (by rw[f];simp) q)
theorem St.set (S:St h n d C) (r:Rl) {i:Nat} {A:aj} (B:aj) (e:C r=some A) (hi:d r=i):St (h.set i (some B)) n d (upd C r (some B)):=by
 subst hi
 refine⟨fun s D q=>?_,fun s t q1 q2 q=>?_,S.wf.set (Nat.le_refl _) (S.lt e)⟩
 ·unfold upd at q
  split at q
  ·rename_i c;subst c
   rw[bS];exact q
  ·rename_i c
   rw[bf (S.df q e c).symm];exact S.get s D q
 ·refine S.inj s t ?_ ?_ q
  ·unfold upd at q1
   split at q1
   ·rename_i c;rw[c,e];simp
   ·exact q1
  ·unfold upd at q2
   split at q2
   ·rename_i c;rw[c,e];simp
   ·exact q2
theorem St.kill (S:St h n d C) (r:Rl) {i:Nat} {A:aj} (e:C r=some A) (hi:d r=i):St (h.set i none) n d (upd C r none):=by
 subst hi
 refine⟨fun s D q=>?_,fun s t q1 q2 q=>?_,S.wf.set (Nat.le_refl _) (S.lt e)⟩
 ·unfold upd at q
  split at q
  ·simp at q
  ·rename_i c
   rw[bf (S.df q e c).symm];exact S.get s D q
 ·refine S.inj s t ?_ ?_ q
  ·unfold upd at q1
   split at q1
   ·exact absurd rfl q1
   ·exact q1
  ·unfold upd at q2
   split at q2
   ·exact absurd rfl q2
   ·exact q2
theorem St.new (S:St h n d C) (r:Rl) {i m:Nat} (B:aj) (hi:n≤i) (hm:i<m):St (h.set i (some B)) m (upd d r i) (upd C r (some B)):=by
 refine⟨fun s D q=>?_,fun s t q1 q2 q=>?_,S.wf.set (by omega) hm⟩
 ·unfold upd at q ⊢
  split at q
  ·rename_i c;rw[if_pos c,bS];exact q
  ·rename_i c
   have:=S.lt q
   rw[if_neg c,bf (by omega)];exact S.get s D q
 ·unfold upd at q q1 q2
  by_cases c1:s=r
  ·by_cases c2:t=r
   ·rw[c1,c2]
   ·rw[if_pos c1,if_neg c2] at q
    rw[if_neg c2] at q2
    obtain⟨B',hB⟩:=Option.ne_none_iff_exists'.1 q2
    have:=S.lt hB
    omega
  ·by_cases c2:t=r
   ·rw[if_neg c1,if_pos c2] at q
    rw[if_neg c1] at q1
    obtain⟨B',hB⟩:=Option.ne_none_iff_exists'.1 q1
    have:=S.lt hB
    omega
   ·rw[if_neg c1,if_neg c2] at q
    rw[if_neg c1] at q1
    rw[if_neg c2] at q2
    exact S.inj s t q1 q2 q
theorem St.junk (S:St h n d C) {i m:Nat} {B:Option aj} (hi:n≤i) (hm:i<m):St (h.set i B) m d C:=by
 refine⟨fun s D q=>?_,S.inj,S.wf.set (by omega) hm⟩
 have:=S.lt q
 rw[bf (by omega)];exact S.get s D q
theorem St.mono (S:St h n d C) {m:Nat} (hm:n≤m):St h m d C:=⟨S.get,S.inj,S.wf.mono hm⟩
theorem St.drop (S:St h n d C) (r:Rl):St h n d (upd C r none):=by
 refine⟨fun s D q=>?_,fun s t q1 q2 q=>?_,S.wf⟩
 ·unfold upd at q
  split at q
  ·simp at q
  ·exact S.get s D q
 ·unfold upd at q1 q2
  split at q1
  ·exact absurd rfl q1
  ·split at q2
   ·exact absurd rfl q2
   ·exact S.inj s t q1 q2 q
theorem St.kept (S:St h n d C) {h':PT aj} {n':Nat} (k:Kept h h') (w:bX h' n'):St h' n' d C:=⟨fun r B q=>k _ _ (S.get r B q),S.inj,w⟩
theorem St.eq (S:St h n d C) {d':Rl→Nat} {C':Rl→Option aj} (e:C=C') (e2:d=d'):St h n d' C':=by subst e e2;exact S
end
theorem St.one {h:PT aj} {n i:Nat} {B:aj} (r:Rl) (w:bX h n) (e:h.get i=some B):St h n (fun _=>i) (upd (fun _=>none) r (some B)):=by
 refine⟨fun s D q=>?_,fun s t q1 q2 q=>?_,w⟩
 ·unfold upd at q
  split at q
  ·rw[←Option.some.inj q];exact e
  ·simp at q
 ·unfold upd at q1 q2
  split at q1
  ·rename_i c
   split at q2
   ·rename_i c2;rw[c,c2]
   ·exact absurd rfl q2
  ·exact absurd rfl q1
theorem St.none {h:PT aj} {n:Nat} (d:Rl→Nat) (w:bX h n):St h n d (fun _=>none):=⟨fun r B q=>by simp at q,fun r s q1=>absurd rfl q1,w⟩
end Go.Am
set_option linter.unusedSimpArgs false
set_option linter.unusedVariables false
namespace Go.Am
abbrev bp:=Int×Value×Nat
def bA (k:IntKind) (l:List bp):List (Value×Value×Nat):=l.map fun e=>(.int k e.1,e.2.1,e.2.2)
def aT (x:Int):List bp→Nat→Option (Nat×Value)
 | [],_=>none
 |e::l,i=>if x=e.1 then some (i,e.2.1) else aT x l (i+1)
theorem fC {kk k:IntKind} {x:Int}:∀ (l:List bp) (i:Nat),gG (.int kk) (.int k x) (bA k l) i=some (aT x l i)
 | [],i=>rfl
 |e::l,i=>by
  have ih:=fC (kk:=kk) (k:=k) (x:=x) l (i+1)
  unfold bA at*
  rw[List.map_cons,gG,aT]
  simp only[Instr.sameNow,if_true]
  by_cases c:x=e.1
  ·rw[if_pos c,show (x==e.1)=true by simpa using c]
  ·rw[if_neg c,show (x==e.1)=false by simpa using c];exact ih
theorem lR {x:Int}:∀ {l:List bp} {i:Nat},(∀ e∈l,e.1≠x)→aT x l i=none
 | [],_,_=>rfl
 |e::l,i,h=>by rw[aT,if_neg (fun c=>h e (by simp) c.symm)];exact lR fun y hy=>h y (by simp[hy])
theorem ya {k:IntKind} (l:List bp) (j:Nat):(bA k l).eraseIdx j=bA k (l.eraseIdx j):=by
 unfold bA
 induction l generalizing j with
 |nil=>rfl
 |cons e l ih=>cases j with
  |zero=>rfl
  |succ j=>simp only[List.map_cons,List.eraseIdx_cons_succ,ih j]
theorem mN {k:IntKind} {x:Int} {v:Value}:∀ (l:List bp) (j:Nat),cZ (.int k x) v (bA k l) j=bA k (match l[j]? with |some e=>l.set j (x,v,e.2.2) |none=>l)
 | [],j=>rfl
 |e::l,0=>rfl
 |e::l,j+1=>by
  have ih:=mN (k:=k) (x:=x) (v:=v) l j
  unfold bA at*
  simp only[List.map_cons,cZ,ih,List.getElem?_cons_succ]
  cases l[j]? <;> simp
theorem sv {k:IntKind} {x:Int} {v:Value} {c:Nat} (l:List bp):bA k l++[(.int k x,v,c)]=bA k (l++[(x,v,c)]):=by simp[bA]
section
variable {P:Program} {t kt et:TypeId} {k:IntKind} {r:Nat} {x:Int} {v:Value} {ok:Bool}
theorem QC (h1:P.underlying t=some (.map kt et)) (h2:P.underlying kt=some (.int k)):HP P t (.map (some r)) (.int k x) ok = .get r (FM P (.int k) et (.int k x) ok):=FN h1 h2 rfl
theorem FT {l:List bp} {c:Nat}:FM P (.int k) et (.int k x) ok (.map (bA k l) c)=As P et ok (some (aT x l 0)):=by rw[FO];exact congrArg (As P et ok) (fC l 0)
theorem QD (h1:P.underlying t=some (.map kt et)) (h2:P.underlying kt=some (.int k)):FL P t (.map (some r)) (.int k x) v = .get r (yX P r (.int k) (.int k x) v):=FP h1 h2 rfl
theorem FU {l:List bp} {c:Nat}:yX P r (.int k) (.int k x) v (.map (bA k l) c)=JJ r true (.int k x) v (bA k l) c (some (aT x l 0)):=by rw[FQ];exact congrArg (JJ r true (.int k x) v (bA k l) c) (fC l 0)
def Oo (P:Program) (r:Nat) (kd:TypeDesc) (k:Value):aj→AP aE
 | .map es clk=>match bN P kd k es 0 with
  |some (some (i,_)) => .set r (.map (es.eraseIdx i) clk) (.pure (.value (.tuple ⟨[]⟩)))
  |some none => .pure (.value (.tuple ⟨[]⟩))
  |none => .fail "delete"
 | _ => .fail "delete"
theorem dlI {ts:List TypeId} (h1:P.underlying t=some (.map kt et)) (h2:P.underlying kt=some (.int k)):vl P .delete (t::ts) [.map (some r),.int k x] = .get r (Oo P r (.int k) (.int k x)):=by
 unfold vl
 show (lZ P (t::ts) [.map (some r),.int k x]).bind _=_
 unfold lZ
 simp only[h1,h2,show iH P kt (.int k) (.int k x)=true from rfl,cond_true,AP.bind]
 congr 1
 funext b
 cases b with
 |map es c=>
  simp only[Oo]
  cases bN P (.int k) (.int k x) es 0 with
  |none=>rfl
  |some q=>cases q<;>rfl
 | _=>rfl
def QE (r:Nat) (l:List bp) (k:IntKind) (c:Nat):Option (Nat×Value)→AP aE
 |some (i,_) => .set r (.map (bA k (l.eraseIdx i)) c) (.pure (.value (.tuple ⟨[]⟩)))
 |none => .pure (.value (.tuple ⟨[]⟩))
theorem FV {l:List bp} {c:Nat}:Oo P r (.int k) (.int k x) (.map (bA k l) c)=QE r l k c (aT x l 0):=by
 unfold Oo
 simp only
 rw[show bN P (.int k) (.int k x) (bA k l) 0=some (aT x l 0) from fC l 0]
 cases aT x l 0 with
 |none=>rfl
 |some q=>simp only[QE,ya]
end
end Go.Am
set_option linter.unusedSimpArgs false
set_option linter.unusedVariables false
namespace Go.Am
def QF (u:Option TypeDesc) (t:TypeId) (x:Value):AP aE:=match u with
 |some (.interface _) => .fail "makeInterface"
 |some _ => .pure (.value (.iface t x))
 |none => .fail "makeInterface"
@[go_sem] theorem QG {e t:TypeId} {x:Value}:QF (some (.pointer e)) t x = .pure (.value (.iface t x)):=rfl
@[go_sem] theorem JN {fs:Array Field} {t:TypeId} {x:Value}:QF (some (.struct fs)) t x = .pure (.value (.iface t x)):=rfl
@[go_sem] theorem QH {P:Program} {ρ:Operand→Value} {d:Option Tmp} {ty t:TypeId} {x:Operand} {pos:String} {af:Array Edge} {g:Option (Nat×Bool)}:iE P ρ ⟨d,.makeInterface t x,ty,pos,af,g⟩=QF (P.underlying t) t (ρ x):=by
 show (dB P t (ρ x)).bind _=_
 unfold dB QF
 cases P.underlying t with
 |none=>rfl
 |some u=>cases u<;>rfl
section
variable {P:Program} {t:TypeId} {cx cy:Bool}
def FW (u:Option TypeDesc) (b:Bool):AP aE:=match u with
 |some (.func _ _ _) => .pure (.value (.bool b))
 | _ => .fail "equal"
@[go_sem] theorem Oq {ps rs:Array TypeId} {v b:Bool}:FW (some (.func ps rs v)) b = .pure (.value (.bool b)):=rfl
theorem yY {f:Fn} {a b:Array Value} (D:Nat):bE P (D+1) t (.func f a b) .nilFunc=match P.underlying t with |some (.func _ _ _) => .pure false | _ => .fail "equal":=by
 unfold bE
 cases P.underlying t with
 |none=>rfl
 |some u=>cases u<;>rfl
theorem yZ (D:Nat):bE P (D+1) t .nilFunc .nilFunc=match P.underlying t with |some (.func _ _ _) => .pure true | _ => .fail "equal":=by
 unfold bE
 cases P.underlying t with
 |none=>rfl
 |some u=>cases u<;>rfl
@[go_sem] theorem JO {f:Fn} {a b:Array Value}:cH P .eql t cx cy (.func f a b) .nilFunc=FW (P.underlying t) false:=by
 have q:cH P .eql t cx cy (.func f a b) .nilFunc=AP.bind ((bE P (11+1) t (.func f a b) .nilFunc).bind fun b => .pure (.bool b)) fun v => .pure (.value v):=by simp only[cH,eC,bH,cond_true]
 rw[q,yY];unfold FW
 cases P.underlying t with
 |none=>rfl
 |some u=>cases u<;>rfl
@[go_sem] theorem JQ {f:Fn} {a b:Array Value}:cH P .neq t cx cy (.func f a b) .nilFunc=FW (P.underlying t) true:=by
 have q:cH P .neq t cx cy (.func f a b) .nilFunc=AP.bind ((bE P (11+1) t (.func f a b) .nilFunc).bind fun b => .pure (.bool !b)) fun v => .pure (.value v):=by simp only[cH,eC,bH,cond_true]
 rw[q,yY];unfold FW
 cases P.underlying t with
 |none=>rfl
 |some u=>cases u<;>rfl
@[go_sem] theorem JR:cH P .eql t cx cy .nilFunc .nilFunc=FW (P.underlying t) true:=by
 have q:cH P .eql t cx cy .nilFunc .nilFunc=AP.bind ((bE P (11+1) t .nilFunc .nilFunc).bind fun b => .pure (.bool b)) fun v => .pure (.value v):=by simp only[cH,eC,bH,cond_true]
 rw[q,yZ];unfold FW
 cases P.underlying t with
 |none=>rfl
 |some u=>cases u<;>rfl
@[go_sem] theorem JS:cH P .neq t cx cy .nilFunc .nilFunc=FW (P.underlying t) false:=by
 have q:cH P .neq t cx cy .nilFunc .nilFunc=AP.bind ((bE P (11+1) t .nilFunc .nilFunc).bind fun b => .pure (.bool !b)) fun v => .pure (.value v):=by simp only[cH,eC,bH,cond_true]
 rw[q,yZ];unfold FW
 cases P.underlying t with
 |none=>rfl
 |some u=>cases u<;>rfl
end
@[go_sem] theorem JT {P:Program} {ρ:Operand→Value} {d:Option Tmp} {ty t:TypeId} {x i v:Operand} {pos:String} {af:Array Edge} {g:Option (Nat×Bool)}:iE P ρ ⟨d,.insert t x i v,ty,pos,af,g⟩=FL P t (ρ x) (ρ i) (ρ v):=rfl
theorem yf {α:Type} {h0 h:PT aj} {n0:Nat} (hk:Kept h0 h) (hw:bX h0 n0):∀ {p:AP α} {a:α} {rd:List Nat},p.look h0=some a→(∀ x∈rd,x<n0)→∀ x∈p.ids h rd,x<n0
 | .pure b,a,rd,_,hr=>hr
 | .fail w,a,rd,e,_=>by simp[AP.look] at e
 | .set ..,a,rd,e,_=>by simp[AP.look] at e
 | .kill ..,a,rd,e,_=>by simp[AP.look] at e
 | .new ..,a,rd,e,_=>by simp[AP.look] at e
 | .get id k,a,rd,e,hr=>by
  simp only[AP.look] at e
  cases hb:h0.get id with
  |none=>rw[hb] at e;simp at e
  |some b=>
   rw[hb] at e
   simp only[AP.ids,hk _ _ hb]
   exact yf hk hw e fun x hx=>by
    rcases List.mem_cons.1 hx with rfl |hx
    ·exact hw.lt hb
    ·exact hr x hx
theorem qD {α:Type} {p:AP α} {a:α} {h0 h:PT aj} {n0 lo hi:Nat} (hs:p.look h0=some a) (hw:bX h0 n0) (hk:Kept h0 h) (hl:n0≤lo):bD (p.ids h []) lo hi=false:=by
 unfold bD
 rw[List.any_eq_false]
 intro x hx
 have:=yf hk hw hs (rd:=[]) (by simp) x hx
 simp[dr (show x<lo by omega)]
theorem yg {α:Type} {p:AP α} {a:α} {h0 h:PT aj} {n0:Nat} {ws:List Nat} (hs:p.look h0=some a) (hw:bX h0 n0) (hk:Kept h0 h) (hl:ws.all (fun x=>decide (n0≤x))=true):meets (p.ids h []) ws=false:=by
 unfold meets
 rw[List.any_eq_false]
 intro x hx
 have:=yf hk hw hs (rd:=[]) (by simp) x hx
 rw[Bool.not_eq_true,List.any_eq_false]
 intro y hy
 have hy:=of_decide_eq_true (List.all_eq_true.1 hl y hy)
 intro c
 have:=Nat.eq_of_beq_eq_true c
 omega
theorem St.Ot {h:PT aj} {n:Nat} {d:Rl→Nat} {C:Rl→Option aj} (S:St h n d C) {i m:Nat} {A B:Option aj} (hi:n≤i) (hm:i<m):St ((h.set i A).set i B) m d C:=by
 refine⟨fun s D q=>?_,S.inj,(S.wf.set (by omega) hm).set (Nat.le_refl _) hm⟩
 have:=S.lt q
 rw[bf (by omega),bf (by omega)];exact S.get s D q
end Go.Am
