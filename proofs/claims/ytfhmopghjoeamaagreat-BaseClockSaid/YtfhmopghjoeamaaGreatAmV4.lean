/-
  A part of the proof: contracts of inner functions.
-/
import Derived.Test.YtfhmopghjoeamaaGreatAmU5
import Derived.Test.YtfhmopghjoeamaaGreatAmU6
import Derived.Test.YtfhmopghjoeamaaGreatAmY3
import Derived.Test.YtfhmopghjoeamaaGreatAmY4
set_option linter.unusedSimpArgs false
set_option linter.unusedVariables false
namespace Go.Am
open Go.RowKit
end Go.Am
set_option linter.unusedSimpArgs false
set_option linter.unusedVariables false
namespace Go.Am
section
variable {P:Program} {ρ:Operand→Value} {d:Option Tmp} {ty:TypeId} {pos:String} {af:Array Edge} {g:Option (Nat×Bool)}
@[go_sem] theorem Eb {t:TypeId}:gO P ρ ⟨d,.makeMap t none,ty,pos,af,g⟩ = .new (.map [] 0) fun id => .pure (.value (.map (some id))):=rfl
def Wo (P:Program) (t:TypeId) (x k:Value) (ok:Bool):AP aC:=(mZ P t x k ok).bind fun v => .pure (.value v)
@[go_sem] theorem FD {t:TypeId} {x i:Operand} {ok:Bool}:gO P ρ ⟨d,.lookup t x i ok,ty,pos,af,g⟩=Wo P t (ρ x) (ρ i) ok:=rfl
def R4 (P:Program) (t:TypeId) (x k v:Value):AP aC:=(iw P t x k v).bind fun _ => .pure .skip
@[go_sem] theorem Br {t:TypeId} {x i v:Operand}:gO P ρ ⟨d,.mapUpdate t x i v,ty,pos,af,g⟩=R4 P t (ρ x) (ρ i) (ρ v):=rfl
def Wp:ak→AP aC
 | .map es _ => .pure (.value (.int .i64 es.length))
 | _ => .fail "map block"
@[go_sem] theorem Ln {es:List (Value×Value×Nat)} {c:Nat}:Wp (.map es c) = .pure (.value (.int .i64 es.length)):=rfl
end
end Go.Am
set_option linter.unusedSimpArgs false
set_option linter.unusedVariables false
namespace Go.Am
def xQ (m:Tm) (d:List Nat):Tm:={ m with gn:=d }
@[go_sem] theorem OO {m:Tm} {d:List Nat}:(xQ m d).n=m.n:=rfl
@[go_sem] theorem JL {m:Tm} {d:List Nat}:(xQ m d).gn=d:=rfl
@[go_sem] theorem JM {m:Tm} {d:List Nat} {i:Nat}:(xQ m d).get i=m.get i:=rfl
def td:List Nat→PT ak→Option (PT ak)
 | [],h=>some h
 |d::r,h=>match h.get d with
  |some .deferred=>td r (h.set d none)
  | _=>none
@[go_sem] theorem Hw {h:PT ak}:td [] h=some h:=rfl
def R5 (o:Option ak) (d:Nat) (r:List Nat) (h:PT ak):Option (PT ak):=match o with
 |some .deferred=>td r (h.set d none)
 | _=>none
@[go_sem] theorem FE {d:Nat} {r:List Nat} {h:PT ak}:td (d::r) h=R5 (h.get d) d r h:=rfl
@[go_sem] theorem Lp {d:Nat} {r:List Nat} {h:PT ak}:R5 (some .deferred) d r h=td r (h.set d none):=rfl
section
variable {z:Zx} {K:List KF} {m:Tm} {h:PT ak} {n:Nat}
def vp (P:Program) (O:Over) (l:Nat) (m0:Tm) (as bd:Code) (h:PT ak) (n:Nat) (R:Bool→PT ak→Nat→Prop):Prop:=
 ∃ k b h' n',dU (jg P O k) 0 l m0 as bd (S0 h n) = .ok (.bool b) (S0 h' n')∧R b h' n'
theorem vp.mono {P:Program} {O:Over} {l:Nat} {m0:Tm} {as bd:Code} {R R':Bool→PT ak→Nat→Prop} (e:vp P O l m0 as bd h n R) (hR:∀ b h' n',R b h' n'→R' b h' n'):vp P O l m0 as bd h n R':=by
 obtain⟨k,b,h',n',e,r⟩:=e
 exact⟨k,b,h',n',e,hR _ _ _ r⟩
def Wq (z:Zx) (l:Nat) (m0:Tm) (as bd:Code) (d:Option Nat) (ops r:List Oper) (K:List KF) (m:Tm) (h:PT ak) (n:Nat):Prop:=ia z (.pure (.round l m0 as bd)) d ops r K m h n
@[go_sem] theorem Lq {l:Nat} {m0:Tm} {as bd:Code} {d:Option Nat} {ops r:List Oper}:ia z (.pure (.round l m0 as bd)) d ops r K m h n↔Wq z l m0 as bd d ops r K m h n:=Iff.rfl
variable {P:Program}
def Wr (args:List Value) (l:Nat):ak→AP aC
 | .loop _ _ tm ps as bd=>match dD ps args tm with
  |some m => .pure (.round l (xQ m []) as bd)
  |none => .fail "yield arguments"
 | _ => .fail "yield loop"
def R6 (l:Nat) (as bd:Code):Option Tm→AP aC
 |some m => .pure (.round l (xQ m []) as bd)
 |none => .fail "yield arguments"
@[go_sem] theorem JN {args:List Value} {l:Nat} {st:LoopState} {pe:Option Code} {tm:Tm} {ps:List Tmp} {as bd:Code}:Wr args l (.loop st pe tm ps as bd)=R6 l as bd (dD ps args tm):=by
 show (match dD ps args tm with |some m=>_ |none=>_)=_
 generalize dD ps args tm=o
 cases o<;>rfl
@[go_sem] theorem JO {l:Nat} {as bd:Code} {m:Tm}:R6 l as bd (some m) = .pure (.round l (xQ m []) as bd):=rfl
@[go_sem] theorem Ec {tm:Tm}:dD [] [] tm=some tm:=rfl
end
end Go.Am
set_option linter.unusedSimpArgs false
set_option linter.unusedVariables false
namespace Go.Am
end Go.Am
set_option linter.unusedSimpArgs false
set_option linter.unusedVariables false
namespace Go.Am
class Sp (G:Prop) (p q A B:outParam Prop):Prop where
 sp:(p→A)→(q→B)→G
theorem xs {G p q A B:Prop} [s:Sp G p q A B] (h1:p→A) (h2:q→B):G:=s.sp h1 h2
section
variable {z:Zx} {K:List KF} {m:Tm} {h:PT ak} {n:Nat} {p:Prop} [Decidable p] {a b:Code} {o:Oper} {ops r:List Oper} {t:Bool} {L:List (Nat×Nat)} {fs:List bD}
instance (priority:=low):Sp (sK z (.bool t) a b K m h n) (t=true) (t=false) (ec z a K m h n) (ec z b K m h n):=⟨fun h1 h2=>fq h1 h2⟩
instance:Sp (sK z (.bool !t) a b K m h n) (t=false) (t=true) (ec z a K m h n) (ec z b K m h n):=⟨fun h1 h2=>fm h1 h2⟩
instance:Sp (sK z (.bool (decide p)) a b K m h n) p (¬p) (ec z a K m h n) (ec z b K m h n):=⟨fun h1 h2=>fk h1 h2⟩
instance (priority:=high):Sp (sK z (.bool (decide (¬p))) a b K m h n) (¬p) p (ec z a K m h n) (ec z b K m h n):=⟨fun h1 h2=>fc h1 h2⟩
instance (priority:=low):Sp (gP z t o ops r K m h n) (t=true) (t=false) (gP z true o ops r K m h n) (gP z false o ops r K m h n):=⟨fun h1 h2=>fD h1 h2⟩
instance:Sp (gP z (!t) o ops r K m h n) (t=false) (t=true) (gP z true o ops r K m h n) (gP z false o ops r K m h n):=⟨fun h1 h2=>fC h1 h2⟩
instance:Sp (gP z (decide p) o ops r K m h n) p (¬p) (gP z true o ops r K m h n) (gP z false o ops r K m h n):=⟨fun h1 h2=>fB h1 h2⟩
instance (priority:=high):Sp (gP z (decide (¬p)) o ops r K m h n) (¬p) p (gP z true o ops r K m h n) (gP z false o ops r K m h n):=⟨fun h1 h2=>fA h1 h2⟩
instance (priority:=low):Sp (gQ z L t o ops r K m h n fs) (t=true) (t=false) (gQ z L true o ops r K m h n fs) (gQ z L false o ops r K m h n fs):=⟨fun h1 h2=>iu h1 h2⟩
instance:Sp (gQ z L (!t) o ops r K m h n fs) (t=false) (t=true) (gQ z L true o ops r K m h n fs) (gQ z L false o ops r K m h n fs):=⟨fun h1 h2=>iq h1 h2⟩
instance:Sp (gQ z L (decide p) o ops r K m h n fs) p (¬p) (gQ z L true o ops r K m h n fs) (gQ z L false o ops r K m h n fs):=⟨fun h1 h2=>ij h1 h2⟩
instance (priority:=high):Sp (gQ z L (decide (¬p)) o ops r K m h n fs) (¬p) p (gQ z L true o ops r K m h n fs) (gQ z L false o ops r K m h n fs):=⟨fun h1 h2=>ig h1 h2⟩
end
class Cl (G:Prop) (z:outParam Zx) (f:outParam FuncId) (args:outParam (List Value)) (m:outParam Tm) (h:outParam (PT ak)) (n:outParam Nat) (R:outParam (Value→PT ak→Nat→Prop)):Prop where
 cl:m.n=z.N→z.O f args=none→gN z.P z.O f args h n R→G
section
variable {z:Zx} {K:List KF} {m:Tm} {h:PT ak} {n:Nat} {f:FuncId} {args:List Value} {d:Option Nat} {ops r:List Oper} {L:List (Nat×Nat)} {lo:Nat} {rd wr:List Nat} {fs:List bD}
instance:Cl (EU z none f args d ops r K m h n) z f args m h n (fun v h' n'=>ia z (.pure (.value v)) d ops r K m h' n'):=⟨fun hm hn e=>sW hm hn e fun _ _ _ q=>q⟩
instance:Cl (xw z L none f args d ops r K m h n lo rd wr fs) z f args m h n (fun v h' n'=>∀ rd' wr':List Nat,jx z L (.pure (.value v)) d ops r K m h' n' lo rd' wr' fs):=⟨fun hm hn e=>by
 obtain⟨k,v,h',n',e,hR⟩:=e
 exact zK hm hn e hR⟩
end
theorem xR {G:Prop} {z:Zx} {f:FuncId} {args:List Value} {m:Tm} {h:PT ak} {n:Nat} {R R0:Value→PT ak→Nat→Prop} {P:Program} {O:Over} [c:Cl G z f args m h n R] (e:gN P O f args h n R0) (hP:z.P=P) (hO:z.O=O) (hm:m.n=z.N) (hn:z.O f args=none)
  (hk:∀ v h' n',R0 v h' n'→R v h' n'):G:=by
 subst hP hO
 obtain⟨k,v,h',n',e,q⟩:=e
 exact c.cl hm hn ⟨k,v,h',n',e,hk _ _ _ q⟩
theorem bX {P:Program} {f:FuncId} {fn:Func} {c:Code} (hf:P.funcs[f]? = some fn) (hb:fn.body=some c) {G:Prop} {z:Zx} {args:List Value} {m:Tm} {h:PT ak} {n:Nat} {R:Value→PT ak→Nat→Prop} [i:Cl G z f args m h n R] (hP:z.P=P) (hm:m.n=z.N) (hn:z.O f args=none)
  (H:∀ y:Zx,y.P=P→y.O=z.O→y.ro=none→y.N=args.length+(fn.ntmps-args.length)→y.Q=Fin P fn.results.toList R→ec y c [] ⟨args.length+(fn.ntmps-args.length),PT.ofList .leaf 0 args,[]⟩ h n):G:=by
 subst hP
 exact i.cl hm hn (aD hf hb rfl H)
section
variable {P:Program} {ρ:Operand→Value} {d:Option Tmp} {ty:TypeId} {pos:String} {af:Array Edge} {g:Option (Nat×Bool)}
@[go_sem] theorem CN {r:Operand} {nm:String} {as:Array Operand} {ts:Array TypeId}:(⟨.invoke r nm,as,ts⟩:Call).operands=#[r]++as:=rfl
@[go_sem] theorem FF {r:Operand} {nm:String} {as:Array Operand} {ts:Array TypeId}:gO P ρ ⟨d,.call ⟨.invoke r nm,as,ts⟩,ty,pos,af,g⟩=cQ P (ρ r) nm (as.toList.map ρ):=rfl
end
theorem dw {z:Zx} {K:List KF} {m:Tm} {h:PT ak} {n:Nat} (nt id:Nat) (L:List (Nat×Nat)) {ops:Array Oper} (hm:m.n=nt) (hL:aO (aM [] ops.toList) ops.toList.length=L) (hd:fY ops.toList L=true) (e:zD z L ops.toList ops.toList K m h n []):ec z (.region id ops true) K m h n:=aG hL hd e
abbrev pt (b:Nat):Value := .pointer (some ⟨b,0,none⟩)
abbrev row (L:List Value):Option ak:=some (.cells (PT.ofList .leaf 0 L) false)
abbrev JQ (L:List Value) (ro:Bool):Option ak:=some (.cells (PT.ofList .leaf 0 L) ro)
abbrev I6 (n:Int):Value := .int .i64 n
abbrev U6 (n:Int):Value := .int .u64 n
abbrev U8 (n:Int):Value := .int .u8 n
abbrev pZ (l:List Value):Value := .tuple ⟨l⟩
end Go.Am
set_option linter.unusedSimpArgs false
set_option linter.unusedVariables false
namespace Go.Am
theorem Hx {z:Zx} {K:List KF} {m:Tm} {h:PT ak} {n:Nat} (id:Nat) {ops:Array Oper} (e:ec z (.region id ops true) K m h n):ec z (.region id ops true) K m h n:=e
abbrev Rl:=Nat×Nat
def upd {α:Type} (f:Rl→α) (r:Rl) (x:α):Rl→α:=fun s=>if s=r then x else f s
theorem aA {α:Type} {f:Rl→α} {r:Rl} {x:α}:upd f r x r=x:=if_pos rfl
theorem Aw {α:Type} {f:Rl→α} {r s:Rl} {x:α} (h:s≠r):upd f r x s=f s:=if_neg h
theorem aq {α:Type} {f:Rl→α} {a b c d:Nat} {x:α} (h:c≠a):upd f (a,b) x (c,d)=f (c,d):=if_neg fun e=>h (congrArg Prod.fst e)
theorem aI {α:Type} {f:Rl→α} {a b d:Nat} {x:α} (h:d≠b):upd f (a,b) x (a,d)=f (a,d):=if_neg fun e=>h (congrArg Prod.snd e)
theorem qU {α:Type} {f:Rl→α} {r:Rl} {x y:α}:upd (upd f r x) r y=upd f r y:=by funext s;unfold upd;split<;>rfl
theorem FG {α:Type} {f:Rl→α} {r:Rl} {x:α} (h:f r=x):upd f r x=f:=by
 funext s;unfold upd;split
 ·rename_i e;rw[e,h]
 ·rfl
def Df (a b:Nat):Prop:=a≠b
theorem Df.symm {a b:Nat} (h:Df a b):Df b a:=fun e=>h e.symm
@[go_sem] theorem JR {h:PT ak} {i j:Nat} {b:Option ak} (hd:Df j i):(h.set i b).get j=h.get j:=aY fun e=>hd e.symm
structure St (h:PT ak) (n:Nat) (d:Rl→Nat) (C:Rl→Option ak):Prop where
 get:∀ r B,C r=some B→h.get (d r)=some B
 inj:∀ r s,C r≠none→C s≠none→d r=d s→r=s
 wf:cW h n
section
variable {h:PT ak} {n:Nat} {d:Rl→Nat} {C:Rl→Option ak}
theorem St.at (S:St h n d C) {r:Rl} {B:ak} (e:C r=some B):h.get (d r)=some B:=S.get r B e
theorem St.lt (S:St h n d C) {r:Rl} {B:ak} (e:C r=some B):d r<n:=S.wf.lt (S.get r B e)
theorem St.df (S:St h n d C) {r s:Rl} {A B:ak} (e:C r=some A) (f:C s=some B) (k:r≠s):Df (d r) (d s):=fun q=>k (S.inj r s (by rw[e];simp) (by rw[f];simp) q)
theorem St.set (S:St h n d C) (r:Rl) {i:Nat} {A:ak} (B:ak) (e:C r=some A) (hi:d r=i):St (h.set i (some B)) n d (upd C r (some B)):=by
 subst hi
 refine⟨fun s D q=>?_,fun s t q1 q2 q=>?_,S.wf.set (Nat.le_refl _) (S.lt e)⟩
 ·unfold upd at q
  split at q
  ·rename_i c;subst c
   rw[eG];exact q
  ·rename_i c
   rw[aY (S.df q e c).symm];exact S.get s D q
 ·refine S.inj s t ?_ ?_ q
  ·unfold upd at q1
   split at q1
   ·rename_i c;rw[c,e];simp
   ·exact q1
  ·unfold upd at q2
   split at q2
   ·rename_i c;rw[c,e];simp
   ·exact q2
theorem St.kill (S:St h n d C) (r:Rl) {i:Nat} {A:ak} (e:C r=some A) (hi:d r=i):St (h.set i none) n d (upd C r none):=by
 subst hi
 refine⟨fun s D q=>?_,fun s t q1 q2 q=>?_,S.wf.set (Nat.le_refl _) (S.lt e)⟩
 ·unfold upd at q
  split at q
  ·simp at q
  ·rename_i c
   rw[aY (S.df q e c).symm];exact S.get s D q
 ·refine S.inj s t ?_ ?_ q
  ·unfold upd at q1
   split at q1
   ·exact absurd rfl q1
   ·exact q1
  ·unfold upd at q2
   split at q2
   ·exact absurd rfl q2
   ·exact q2
theorem St.new (S:St h n d C) (r:Rl) {i m:Nat} (B:ak) (hi:n≤i) (hm:i<m):St (h.set i (some B)) m (upd d r i) (upd C r (some B)):=by
 refine⟨fun s D q=>?_,fun s t q1 q2 q=>?_,S.wf.set (by omega) hm⟩
 ·unfold upd at q ⊢
  split at q
  ·rename_i c;rw[if_pos c,eG];exact q
  ·rename_i c
   have:=S.lt q
   rw[if_neg c,aY (by omega)];exact S.get s D q
 ·unfold upd at q q1 q2
  by_cases c1:s=r
  ·by_cases c2:t=r
   ·rw[c1,c2]
   ·rw[if_pos c1,if_neg c2] at q
    rw[if_neg c2] at q2
    obtain⟨B',hB⟩:=Option.ne_none_iff_exists'.1 q2
    have:=S.lt hB
    omega
  ·by_cases c2:t=r
   ·rw[if_neg c1,if_pos c2] at q
    rw[if_neg c1] at q1
    obtain⟨B',hB⟩:=Option.ne_none_iff_exists'.1 q1
    have:=S.lt hB
    omega
   ·rw[if_neg c1,if_neg c2] at q
    rw[if_neg c1] at q1
    rw[if_neg c2] at q2
    exact S.inj s t q1 q2 q
theorem St.junk (S:St h n d C) {i m:Nat} {B:Option ak} (hi:n≤i) (hm:i<m):St (h.set i B) m d C:=by
 refine⟨fun s D q=>?_,S.inj,S.wf.set (by omega) hm⟩
 have:=S.lt q
 rw[aY (by omega)];exact S.get s D q
theorem St.mono (S:St h n d C) {m:Nat} (hm:n≤m):St h m d C:=⟨S.get,S.inj,S.wf.mono hm⟩
theorem St.drop (S:St h n d C) (r:Rl):St h n d (upd C r none):=by
 refine⟨fun s D q=>?_,fun s t q1 q2 q=>?_,S.wf⟩
 ·unfold upd at q
  split at q
  ·simp at q
  ·exact S.get s D q
 ·unfold upd at q1 q2
  split at q1
  ·exact absurd rfl q1
  ·split at q2
   ·exact absurd rfl q2
   ·exact S.inj s t q1 q2 q
theorem St.kept (S:St h n d C) {h':PT ak} {n':Nat} (k:Kept h h') (w:cW h' n'):St h' n' d C:=⟨fun r B q=>k _ _ (S.get r B q),S.inj,w⟩
theorem St.eq (S:St h n d C) {d':Rl→Nat} {C':Rl→Option ak} (e:C=C') (e2:d=d'):St h n d' C':=by subst e e2;exact S
end
theorem St.one {h:PT ak} {n i:Nat} {B:ak} (r:Rl) (w:cW h n) (e:h.get i=some B):St h n (fun _=>i) (upd (fun _=>none) r (some B)):=by
 refine⟨fun s D q=>?_,fun s t q1 q2 q=>?_,w⟩
 ·unfold upd at q
  split at q
  ·rw[←Option.some.inj q];exact e
  ·simp at q
 ·unfold upd at q1 q2
  split at q1
  ·rename_i c
   split at q2
   ·rename_i c2;rw[c,c2]
   ·exact absurd rfl q2
  ·exact absurd rfl q1
theorem St.none {h:PT ak} {n:Nat} (d:Rl→Nat) (w:cW h n):St h n d (fun _=>none):=⟨fun r B q=>by simp at q,fun r s q1=>absurd rfl q1,w⟩
end Go.Am
set_option linter.unusedSimpArgs false
set_option linter.unusedVariables false
namespace Go.Am
abbrev CO:=Int×Value×Nat
def Ay (k:IntKind) (l:List CO):List (Value×Value×Nat):=l.map fun e=>(.int k e.1,e.2.1,e.2.2)
section
variable {P:Program} {t kt et:TypeId} {k:IntKind} {r:Nat} {x:Int} {v:Value} {ok:Bool}
end
end Go.Am
set_option linter.unusedSimpArgs false
set_option linter.unusedVariables false
namespace Go.Am
def Lr (u:Option TypeDesc) (t:TypeId) (x:Value):AP aC:=match u with
 |some (.interface _) => .fail "makeInterface"
 |some _ => .pure (.value (.iface t x))
 |none => .fail "makeInterface"
@[go_sem] theorem Ls {e t:TypeId} {x:Value}:Lr (some (.pointer e)) t x = .pure (.value (.iface t x)):=rfl
@[go_sem] theorem FH {fs:Array Field} {t:TypeId} {x:Value}:Lr (some (.struct fs)) t x = .pure (.value (.iface t x)):=rfl
@[go_sem] theorem Lt {P:Program} {ρ:Operand→Value} {d:Option Tmp} {ty t:TypeId} {x:Operand} {pos:String} {af:Array Edge} {g:Option (Nat×Bool)}:gO P ρ ⟨d,.makeInterface t x,ty,pos,af,g⟩=Lr (P.underlying t) t (ρ x):=by
 show (cO P t (ρ x)).bind _=_
 unfold cO Lr
 cases P.underlying t with
 |none=>rfl
 |some u=>cases u<;>rfl
section
variable {P:Program} {t:TypeId} {cx cy:Bool}
def CP (u:Option TypeDesc) (b:Bool):AP aC:=match u with
 |some (.func _ _ _) => .pure (.value (.bool b))
 | _ => .fail "equal"
@[go_sem] theorem JS {ps rs:Array TypeId} {v b:Bool}:CP (some (.func ps rs v)) b = .pure (.value (.bool b)):=rfl
theorem wk {f:Fn} {a b:Array Value} (D:Nat):bw P (D+1) t (.func f a b) .nilFunc=match P.underlying t with |some (.func _ _ _) => .pure false | _ => .fail "equal":=by
 unfold bw
 cases P.underlying t with
 |none=>rfl
 |some u=>cases u<;>rfl
theorem wm (D:Nat):bw P (D+1) t .nilFunc .nilFunc=match P.underlying t with |some (.func _ _ _) => .pure true | _ => .fail "equal":=by
 unfold bw
 cases P.underlying t with
 |none=>rfl
 |some u=>cases u<;>rfl
@[go_sem] theorem FI {f:Fn} {a b:Array Value}:cg P .eql t cx cy (.func f a b) .nilFunc=CP (P.underlying t) false:=by
 have q:cg P .eql t cx cy (.func f a b) .nilFunc=AP.bind ((bw P (11+1) t (.func f a b) .nilFunc).bind fun b => .pure (.bool b)) fun v => .pure (.value v):=by simp only[cg,dR,bC,cond_true]
 rw[q,wk];unfold CP
 cases P.underlying t with
 |none=>rfl
 |some u=>cases u<;>rfl
@[go_sem] theorem FJ {f:Fn} {a b:Array Value}:cg P .neq t cx cy (.func f a b) .nilFunc=CP (P.underlying t) true:=by
 have q:cg P .neq t cx cy (.func f a b) .nilFunc=AP.bind ((bw P (11+1) t (.func f a b) .nilFunc).bind fun b => .pure (.bool !b)) fun v => .pure (.value v):=by simp only[cg,dR,bC,cond_true]
 rw[q,wk];unfold CP
 cases P.underlying t with
 |none=>rfl
 |some u=>cases u<;>rfl
@[go_sem] theorem FK:cg P .eql t cx cy .nilFunc .nilFunc=CP (P.underlying t) true:=by
 have q:cg P .eql t cx cy .nilFunc .nilFunc=AP.bind ((bw P (11+1) t .nilFunc .nilFunc).bind fun b => .pure (.bool b)) fun v => .pure (.value v):=by simp only[cg,dR,bC,cond_true]
 rw[q,wm];unfold CP
 cases P.underlying t with
 |none=>rfl
 |some u=>cases u<;>rfl
@[go_sem] theorem FL:cg P .neq t cx cy .nilFunc .nilFunc=CP (P.underlying t) false:=by
 have q:cg P .neq t cx cy .nilFunc .nilFunc=AP.bind ((bw P (11+1) t .nilFunc .nilFunc).bind fun b => .pure (.bool !b)) fun v => .pure (.value v):=by simp only[cg,dR,bC,cond_true]
 rw[q,wm];unfold CP
 cases P.underlying t with
 |none=>rfl
 |some u=>cases u<;>rfl
end
@[go_sem] theorem FM {P:Program} {ρ:Operand→Value} {d:Option Tmp} {ty t:TypeId} {x i v:Operand} {pos:String} {af:Array Edge} {g:Option (Nat×Bool)}:gO P ρ ⟨d,.insert t x i v,ty,pos,af,g⟩=R4 P t (ρ x) (ρ i) (ρ v):=rfl
theorem vq {α:Type} {h0 h:PT ak} {n0:Nat} (hk:Kept h0 h) (hw:cW h0 n0):∀ {p:AP α} {a:α} {rd:List Nat},p.look h0=some a→(∀ x∈rd,x<n0)→∀ x∈p.ids h rd,x<n0
 | .pure b,a,rd,_,hr=>hr
 | .fail w,a,rd,e,_=>by simp[AP.look] at e
 | .set ..,a,rd,e,_=>by simp[AP.look] at e
 | .kill ..,a,rd,e,_=>by simp[AP.look] at e
 | .new ..,a,rd,e,_=>by simp[AP.look] at e
 | .get id k,a,rd,e,hr=>by
  simp only[AP.look] at e
  cases hb:h0.get id with
  |none=>rw[hb] at e;simp at e
  |some b=>
   rw[hb] at e
   simp only[AP.ids,hk _ _ hb]
   exact vq hk hw e fun x hx=>by
    rcases List.mem_cons.1 hx with rfl |hx
    ·exact hw.lt hb
    ·exact hr x hx
theorem oP {α:Type} {p:AP α} {a:α} {h0 h:PT ak} {n0 lo hi:Nat} (hs:p.look h0=some a) (hw:cW h0 n0) (hk:Kept h0 h) (hl:n0≤lo):bt (p.ids h []) lo hi=false:=by
 unfold bt
 rw[List.any_eq_false]
 intro x hx
 have:=vq hk hw hs (rd:=[]) (by simp) x hx
 simp[cM (show x<lo by omega)]
theorem vr {α:Type} {p:AP α} {a:α} {h0 h:PT ak} {n0:Nat} {ws:List Nat} (hs:p.look h0=some a) (hw:cW h0 n0) (hk:Kept h0 h) (hl:ws.all (fun x=>decide (n0≤x))=true):meets (p.ids h []) ws=false:=by
 unfold meets
 rw[List.any_eq_false]
 intro x hx
 have:=vq hk hw hs (rd:=[]) (by simp) x hx
 rw[Bool.not_eq_true,List.any_eq_false]
 intro y hy
 have hy:=of_decide_eq_true (List.all_eq_true.1 hl y hy)
 intro c
 have:=Nat.eq_of_beq_eq_true c
 omega
theorem St.JT {h:PT ak} {n:Nat} {d:Rl→Nat} {C:Rl→Option ak} (S:St h n d C) {i m:Nat} {A B:Option ak} (hi:n≤i) (hm:i<m):St ((h.set i A).set i B) m d C:=by
 refine⟨fun s D q=>?_,S.inj,(S.wf.set (by omega) hm).set (Nat.le_refl _) hm⟩
 have:=S.lt q
 rw[aY (by omega),aY (by omega)];exact S.get s D q
end Go.Am
