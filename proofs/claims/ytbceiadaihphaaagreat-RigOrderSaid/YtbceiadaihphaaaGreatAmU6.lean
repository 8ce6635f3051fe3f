/-
  A part of the proof: contracts of inner functions.
-/
import Derived.Test.YtbceiadaihphaaaGreatAmX6
import Derived.Test.YtbceiadaihphaaaGreatAmX7
set_option linter.unusedSimpArgs false
set_option linter.unusedVariables false
namespace Go.Am
attribute [go_sem] List.all_cons List.all_nil Bool.and_true Bool.true_and Bool.and_false Bool.false_and Bool.or_true Bool.true_or Bool.or_false Bool.false_or Bool.not_true Bool.not_false
 Option.map_some Option.map_none List.getElem?_cons_zero List.getElem?_cons_succ List.getElem?_nil Option.getD_some List.map_cons List.map_nil List.nil_append List.cons_append List.append_nil
 List.length_cons List.length_nil List.set_cons_zero List.set_cons_succ List.drop_zero List.drop_succ_cons List.take_zero List.take_succ_cons List.drop_nil List.take_nil List.isEmpty_cons List.isEmpty_nil
 cond_true cond_false true_and and_true Option.isNone_some Option.isNone_none Bool.xor_false Bool.xor_true Bool.false_xor Bool.true_xor
 Nat.zero_add Nat.add_zero Nat.mul_one Nat.zero_mul Nat.one_mul List.length_append List.length_map List.append_assoc
 decide_true decide_false eq_self ne_eq not_true_eq_false not_false_eq_true
@[go_sem] theorem Ls (l:List Value):(⟨l⟩:Array Value).toList=l:=rfl
@[go_sem] theorem JV (l:List Operand):(⟨l⟩:Array Operand).toList=l:=rfl
@[go_sem] theorem JW (l:List (Nat×Operand)):(⟨l⟩:Array (Nat×Operand)).toList=l:=rfl
@[go_sem] theorem JX (l:List TypeId):(⟨l⟩:Array TypeId).toList=l:=rfl
@[go_sem] theorem HE (l:List Oper):(⟨l⟩:Array Oper).toList=l:=rfl
@[go_sem] theorem JY (l:List ResultVar):(⟨l⟩:Array ResultVar).toList=l:=rfl
@[go_sem] theorem JZ (l l':List Operand):(⟨l⟩:Array Operand)++(⟨l'⟩:Array Operand)=⟨l++l'⟩:=by simp
@[go_sem] theorem HF (x:Operand):(some x).toArray=#[x]:=rfl
@[go_sem] theorem HG:(none:Option Operand).toArray=#[]:=rfl
@[go_sem] theorem Gh {f:Operand} {as:Array Operand} {ts:Array TypeId}:(⟨.value f,as,ts⟩:Call).operands=#[f]++as:=rfl
@[go_sem] theorem Ez {b:Builtin} {as:Array Operand} {ts:Array TypeId}:(⟨.builtin b,as,ts⟩:Call).operands=as:=by simp[Call.operands]
def uO (o:Option Value) (r:Option (List Value)):Option (List Value):=match o,r with
 |some v,some l=>some (v::l)
 | _,_=>none
@[go_sem] theorem HI {v:Value} {l:List Value}:uO (some v) (some l)=some (v::l):=rfl
section
variable {P:Program} {m:Tm} {h:PT aj}
@[go_sem] theorem QH:jh P m h []=some []:=rfl
@[go_sem] theorem QI {t:Tmp} {r:List ResultVar}:jh P m h (.tmp t::r)=uO (some (m.get t)) (jh P m h r):=by
 rw[jh];cases jh P m h r<;>rfl
@[go_sem] theorem N9 {a:Tmp} {t:TypeId} {r:List ResultVar}:jh P m h (.cell a t::r)=uO (Hr P t (m.get a) h) (jh P m h r):=by
 rw[jh]
 cases Hr P t (m.get a) h with
 |none=>rfl
 |some v=>cases jh P m h r<;>rfl
def Tk (g:Option Bool) (s:Option Nat) (off:Nat) (b:Option aj):Option Value:=match g,s,b with
 |some true,some s,some (.cells c _)=>(bp c off s).map fun l => .agg ⟨l⟩
 |some false,some _,some (.cells c _)=>c.get off
 | _,_,_=>none
@[go_sem] theorem Tl {t:TypeId} {b off:Nat} {sp:Option Nat}:Hr P t (.pointer (some ⟨b,off,sp⟩)) h=Tk (b_ P t) (bY P t) off (h.get b):=by
 unfold Hr fT Tk b_ bY
 cases P.info? t with
 |none=>cases P.underlying t with
  |none=>rfl
  |some u=>simp only[Option.map_some,Option.map_none];cases isAgg u<;>rfl
 |some i=>
  cases P.underlying t with
  |none=>rfl
  |some u=>
   simp only[AP.run,Option.map_some,show ∀ m,(S0 h m).heap=h from fun _=>rfl]
   cases h.get b with
   |none=>cases isAgg u<;>rfl
   |some B=>
    simp only[show Nat.blt b 0=false from rfl,cond_false]
    cases B with
    |cells c ro=>
     cases isAgg u with
     |false=>simp only[cond_false];cases c.get off<;>rfl
     |true=>simp only[cond_true];cases bp c off i.size<;>rfl
    | _=>cases isAgg u<;>rfl
@[go_sem] theorem Z_ {s off:Nat} {L:List Value} {ro:Bool}:Tk (some true) (some s) off (some (.cells (PT.ofList .leaf 0 L) ro))=cond (Nat.ble (off+s) L.length||Nat.beq s 0) (some (.agg ⟨(L.drop off).take s⟩)) none:=by
 simp only[Tk,dO];cases (Nat.ble (off+s) L.length||Nat.beq s 0)<;>rfl
@[go_sem] theorem N_ {v:Value}:oneOf [v]=v:=rfl
@[go_sem] theorem Oa {v w:Value} {l:List Value}:oneOf (v::w::l) = .tuple ⟨v::w::l⟩:=rfl
end
@[go_sem] theorem QJ {f:FuncId} {args:List Value}:pN [] f args=none:=rfl
@[go_sem] theorem Ob {g f:FuncId} {s:List Value→Option (AP Value)} {l:P5} {args:List Value}:pN ((g,s)::l) f args=cond (Nat.beq f g) (s args) (pN l f args):=rfl
@[go_sem] theorem Oc {b:List Nat}:meets [] b=false:=rfl
@[go_sem] theorem yY {x:Nat} {a b:List Nat}:meets (x::a) b=(b.any (Nat.beq x)||meets a b):=rfl
attribute [go_sem] List.any_cons List.any_nil List.reverse_cons List.reverse_nil jk
@[go_sem] theorem EA {lo hi:Nat}:bZ [] lo hi=false:=rfl
@[go_sem] theorem qA {x lo hi:Nat} {a:List Nat}:bZ (x::a) lo hi=(Nat.ble lo x&&Nat.blt x hi||bZ a lo hi):=rfl
@[go_sem] theorem J0 {fs:List cm}:dU fs []=true:=rfl
def EB (f g:Option cm):Bool:=match f,g with
 |some f,some g => !jk f g
 | _,_=>false
@[go_sem] theorem HJ {fs:List cm} {i j:Nat} {L:List (Nat×Nat)}:dU fs ((i,j)::L)=(EB fs[i]? fs[j]? && dU fs L):=rfl
@[go_sem] theorem J1 {f g:cm}:EB (some f) (some g) = !jk f g:=rfl
section ops
variable {P:Program} {ρ:Operand→Value} {d:Option Tmp} {ty:TypeId} {pos:String} {af:Array Edge} {g:Option (Nat×Bool)}
def EC (pl:Option (Nat×Nat)) (cells vs:List Value):Option (List Value):=match pl with
 |some (off,size)=>cond (Nat.beq vs.length size&&Nat.ble (off+vs.length) cells.length) (some (dW cells off vs)) none
 |none=>none
def J2 (place:Nat→Option (Nat×Nat)) (c:Option (List Value)) (r:List (Nat×Value)):Option (List Value):=match c with
 |some c=>fY place c r
 |none=>none
@[go_sem] theorem Od {place:Nat→Option (Nat×Nat)} {cells:List Value}:fY place cells []=some cells:=rfl
@[go_sem] theorem Lt {place:Nat→Option (Nat×Nat)} {cells:List Value} {i:Nat} {v:Value} {r:List (Nat×Value)}:fY place cells ((i,v)::r)=J2 place (EC (place i) cells v.cells.toList) r:=by
 rw[fY];unfold EC
 cases place i with
 |none=>rfl
 |some p=>
  obtain⟨off,size⟩:=p
  simp only
  cases (Nat.beq v.cells.toList.length size&&Nat.ble (off+v.cells.toList.length) cells.length)<;>rfl
@[go_sem] theorem Lu {off size:Nat} {cells vs:List Value}:EC (some (off,size)) cells vs=cond (Nat.beq vs.length size&&Nat.ble (off+vs.length) cells.length) (some (dW cells off vs)) none:=rfl
@[go_sem] theorem Lv {place:Nat→Option (Nat×Nat)} {c:List Value} {r:List (Nat×Value)}:J2 place (some c) r=fY place c r:=rfl
@[go_sem] theorem J3 {l vs:List Value} {off:Nat}:dW l off vs=l.take off++vs++l.drop (off+vs.length):=rfl
attribute [go_sem] rep
def k7 (P:Program) (t:TypeId):Option (List Value×(Nat→Option (Nat×Nat))):=
 match zeroOf P t,P.underlying t with
 |some z,some (.struct fs)=>(ej P fs.toList).map fun ps=>(z.cells.toList,(ps[·]?))
 |some z,some (.array _ e)=>(P.info? e).map fun i=>(z.cells.toList,fun j=>some (j*i.size,i.size))
 | _,_=>none
def Lw (w:String) (o:Option (List Value)):AP aJ:=match o with
 |some l => .pure (.value (.agg ⟨l⟩))
 |none => .fail w
@[go_sem] theorem Oe {w:String} {l:List Value}:Lw w (some l) = .pure (.value (.agg ⟨l⟩)):=rfl
def Xk (k:Option (List Value×(Nat→Option (Nat×Nat)))) (parts:List (Nat×Value)):AP aJ:=match k with
 |some (z,pl)=>Lw "build" (fY pl z parts)
 |none => .fail "build"
@[go_sem] theorem QK {z:List Value} {pl:Nat→Option (Nat×Nat)} {parts:List (Nat×Value)}:Xk (some (z,pl)) parts=Lw "build" (fY pl z parts):=rfl
@[go_sem] theorem Oh {t:TypeId} {ps:Array (Nat×Operand)}:jA P ρ ⟨d,.build t ps,ty,pos,af,g⟩=Xk (k7 P t) (ps.toList.map fun p=>(p.1,ρ p.2)):=by
 show (qV P t _).bind _=_
 unfold qV Xk k7
 generalize ps.toList.map (fun p=>(p.1,ρ p.2))=l
 cases zeroOf P t with
 |none=>rfl
 |some z=>
  cases P.underlying t with
  |none=>rfl
  |some u=>
   cases u with
   |struct fs=>
    simp only
    cases ej P fs.toList with
    |none=>rfl
    |some ps=>simp only[Option.map_some];cases fY (ps[·]?) z.cells.toList l<;>rfl
   |array len e=>
    simp only
    cases P.info? e with
    |none=>rfl
    |some i=>simp only[Option.map_some];cases fY (fun j=>some (j*i.size,i.size)) z.cells.toList l<;>rfl
   | _=>rfl
def yZ (P:Program) (t:TypeId):Option (Nat×Nat×List Value):=
 match P.underlying t with
 |some (.slice e)=>match P.info? e,zeroOf P e with
  |some i,some z=>some (i.size,i.bytes,z.cells.toList)
  | _,_=>none
 | _=>none
def Lx (n:Nat) (o:Option (List Value)):AP aJ:=match o with
 |some l => .new (.cells (PT.ofList .leaf 0 l) false) fun id => .pure (.value (.slice (some ⟨id,0,none⟩) n n))
 |none => .fail "buildSlice"
@[go_sem] theorem Oi {n:Nat} {l:List Value}:Lx n (some l) = .new (.cells (PT.ofList .leaf 0 l) false) fun id => .pure (.value (.slice (some ⟨id,0,none⟩) n n)):=rfl
def Xl (k:Option (Nat×Nat×List Value)) (n:Nat) (parts:List (Nat×Value)):AP aJ:=match k with
 |some (s,_,z)=>cond (Nat.ble (n*s) 16777216&&Nat.beq z.length s&&Nat.blt 0 s) (Lx n (fY (fun j=>some (j*s,s)) (rep z n) parts)) (.fail "buildSlice")
 |none => .fail "buildSlice"
@[go_sem] theorem QL {s b n:Nat} {z:List Value} {parts:List (Nat×Value)}:Xl (some (s,b,z)) n parts=cond (Nat.ble (n*s) 16777216&&Nat.beq z.length s&&Nat.blt 0 s) (Lx n (fY (fun j=>some (j*s,s)) (rep z n) parts)) (.fail "buildSlice"):=rfl
@[go_sem] theorem ED {t:TypeId} {n:Nat} {ps:Array (Nat×Operand)}:jA P ρ ⟨d,.buildSlice t n ps,ty,pos,af,g⟩=Xl (yZ P t) n (ps.toList.map fun p=>(p.1,ρ p.2)):=by
 show (gU P t n _).bind _=_
 unfold gU Xl yZ
 generalize ps.toList.map (fun p=>(p.1,ρ p.2))=l
 cases P.underlying t with
 |none=>rfl
 |some u=>
  cases u with
  |slice e=>
   simp only
   cases P.info? e with
   |none=>rfl
   |some i=>
    cases zeroOf P e with
    |none=>rfl
    |some z=>
     simp only
     cases (Nat.ble (n*i.size) 16777216&&Nat.beq z.cells.toList.length i.size&&Nat.blt 0 i.size) with
     |false=>rfl
     |true=>
      simp only[cond_true]
      cases fY (fun j=>some (j*i.size,i.size)) (rep z.cells.toList n) l<;>rfl
  | _=>rfl
def Xm (k:Option (Nat×Nat×List Value)) (l c:Option Nat):AP aJ:=match k,l,c with
 |some (s,by',z),some l,some c=>cond (Nat.ble l c&&Nat.ble c 1048576&&Nat.ble by' 65536&&Nat.beq z.length s&&Nat.blt 0 s)
   (.new (.cells (PT.ofList .leaf 0 (rep z c)) false) fun id => .pure (.value (.slice (some ⟨id,0,none⟩) l c))) (.fail "makeSlice")
 | _,_,_ => .fail "makeSlice"
@[go_sem] theorem QM {s by' l c:Nat} {z:List Value}:Xm (some (s,by',z)) (some l) (some c)=cond (Nat.ble l c&&Nat.ble c 1048576&&Nat.ble by' 65536&&Nat.beq z.length s&&Nat.blt 0 s)
   (.new (.cells (PT.ofList .leaf 0 (rep z c)) false) fun id => .pure (.value (.slice (some ⟨id,0,none⟩) l c))) (.fail "makeSlice"):=rfl
@[go_sem] theorem Gi {t:TypeId} {l c:Operand}:jA P ρ ⟨d,.makeSlice t l c,ty,pos,af,g⟩=Xm (yZ P t) (asNat (ρ l)) (asNat (ρ c)):=by
 show (iO P t (ρ l) (ρ c)).bind _=_
 unfold iO Xm yZ
 generalize asNat (ρ l)=x
 generalize asNat (ρ c)=y
 cases P.underlying t with
 |none=>rfl
 |some u=>
  cases u with
  |slice e=>
   cases x with
   |none=>dsimp only;cases P.info? e<;>cases zeroOf P e<;>rfl
   |some x=>cases y with
    |none=>dsimp only;cases P.info? e<;>cases zeroOf P e<;>rfl
    |some y=>
     dsimp only
     cases P.info? e with
     |none=>cases zeroOf P e<;>rfl
     |some i=>cases zeroOf P e with
      |none=>rfl
      |some z=>
       dsimp only
       cases (Nat.ble x y&&Nat.ble y 1048576&&Nat.ble i.bytes 65536&&Nat.beq z.cells.toList.length i.size&&Nat.blt 0 i.size)<;>rfl
  | _=>rfl
def nR (s by' zl len n:Nat) (old new:List Value):AP Value:=
 cond (Nat.ble (len+n) 1048576&&Nat.ble by' 65536&&Nat.beq zl s&&Nat.beq old.length (len*s)&&Nat.beq new.length (n*s))
  (.new (.cells (PT.ofList .leaf 0 (old++new)) false) fun id => .pure (.slice (some ⟨id,0,none⟩) (len+n) (aB+s)))
  (.fail "append")
def HK (s by' zl:Nat) (base:Option Addr) (len cap n:Nat) (new:List Value):AP Value:=
 cond (Nat.beq n 0&&Nat.ble len cap&&new.isEmpty) (.pure (.slice base len cap))
 (cond (Nat.ble aB cap)
  (match base with
   |some a=>cond (Nat.beq cap (aB+s)&&new.all bn)
    (.get a.block fun
     | .cells c false=>match bp c a.off (len*s) with
      |some old => .kill a.block (nR s by' zl len n old new)
      |none => .fail "append"
     | _ => .fail "append") (.fail "append")
   |none => .fail "append")
  (cond (Nat.ble (len+n) cap)
   (match base with
    |some a => .get a.block fun
     | .cells c false=>match bQ c (a.off+len*s) new with
      |some c' => .set a.block (.cells c' false) (.pure (.slice (some a) (len+n) cap))
      |none => .fail "append"
     | _ => .fail "append"
    |none => .fail "append")
   ((j9 s (.slice base len cap)).bind fun p=>nR s by' zl len n p.2 new)))
def Ad (P:Program) (t tx:TypeId):Option (Nat×Nat×Nat):=
 match P.underlying t,P.underlying tx with
 |some (.slice _),some (.int _)=>none
 |some (.slice e),some _=>match P.info? e,zeroOf P e with
  |some i,some z=>some (i.size,i.bytes,z.cells.toList.length)
  | _,_=>none
 | _,_=>none
def Xn (k:Option (Nat×Nat×Nat)) (s x:Value) (fb:AP aJ):AP aJ:=match k,s with
 |some (sz,by',zl),.slice base len cap=>((j9 sz x).bind fun p=>HK sz by' zl base len cap p.1 p.2).bind fun v => .pure (.value v)
 |some _,_ => .fail "append"
 |none,_=>fb
@[go_sem] theorem J4 {t tx:TypeId} {s x:Value}:uN P .append [t,tx] [s,x]=Xn (Ad P t tx) s x ((mF P [t,tx] [s,x]).bind fun v => .pure (.value v)):=by
 show (mF P [t,tx] [s,x]).bind _=_
 cases hk:Ad P t tx with
 |none=>rfl
 |some k=>
  unfold Ad at hk
  split at hk
  ·simp at hk
  ·rename_i e d hni h1 h2
   split at hk
   ·rename_i i z hi hz
    simp only[Option.some.injEq] at hk
    subst hk
    unfold mF Xn
    simp only[h1,h2]
    cases d with
    |int k=>exact absurd rfl (hni k)
    | _=>cases s<;>first |rfl |simp only[hi,hz];rfl
   ·simp at hk
  ·simp at hk
end ops
end Go.Am
namespace Go.Am
theorem aC {P:Program} {O:dK} {f:FuncId} {fn:Func} {c:Code} {args:List Value} {h:PT aj} {n N:Nat} {R:Value→PT aj→Nat→Prop} (hf:P.funcs[f]? = some fn) (hb:fn.body=some c) (hN:args.length+(fn.ntmps-args.length)=N)
  (H:∀ z:Zx,z.P=P→z.O=O→z.ro=none→z.N=N→z.Q=Fin P fn.results.toList R→eZ z c [] ⟨N,PT.ofList .leaf 0 args,[]⟩ h n):b9 P O f args h n R:=by
 subst hN;exact K7 hf hb H
@[go_sem] theorem Tn {P:Program} {rs:List ResultVar} {R:Value→PT aj→Nat→Prop} {m:Tm} {h:PT aj} {n:Nat}:Fin P rs R .ret m h n↔m.gD=[]∧∃ l,jh P m h rs=some l∧R (oneOf l) h n:=by simp[Fin]
@[go_sem] theorem Ly {P:Program} {rs:List ResultVar} {R:Value→PT aj→Nat→Prop} {m:Tm} {h:PT aj} {n:Nat}:Fin P rs R .normal m h n↔m.gD=[]∧∃ l,jh P m h rs=some l∧R (oneOf l) h n:=by simp[Fin]
attribute [go_sem] Option.some.injEq exists_eq_left'
@[go_sem] theorem J5 {p:Prop} [Decidable p]:(!decide p)=decide (¬p):=by by_cases h:p<;>simp[h]
@[go_sem] theorem J6 {p q:Prop} [Decidable p] [Decidable q]:(decide p&&decide q)=decide (p∧q):=by by_cases h:p<;>by_cases k:q<;>simp[h,k]
section
variable {z:Zx} {K:List KF} {m:Tm} {h:PT aj} {n:Nat} {p:Prop} [Decidable p]
theorem EE {a b:Code} (h1: ¬ p→eZ z a K m h n) (h2:p→eZ z b K m h n):yL z (.bool (decide (¬p))) a b K m h n:=by
 by_cases hp:p
 ·simpa [hp,pK] using h2 hp
 ·simpa [hp,rZ] using h1 hp
theorem BF {a b:Code} {t:Bool} (h1:t=false→eZ z a K m h n) (h2:t=true→eZ z b K m h n):yL z (.bool !t) a b K m h n:=by
 cases t
 ·exact rZ.2 (h1 rfl)
 ·exact pK.2 (h2 rfl)
theorem EF {o:Oper} {ops r:List Oper} {t:Bool} (h1:t=true→jB z true o ops r K m h n) (h2:t=false→jB z false o ops r K m h n):jB z t o ops r K m h n:=by
 cases t<;>first |exact h1 rfl |exact h2 rfl
theorem BG {o:Oper} {ops r:List Oper} {t:Bool} (h1:t=false→jB z true o ops r K m h n) (h2:t=true→jB z false o ops r K m h n):jB z (!t) o ops r K m h n:=by
 cases t<;>first |exact h1 rfl |exact h2 rfl
theorem EG {L:List (Nat×Nat)} {o:Oper} {ops r:List Oper} {fs:List cm} {t:Bool} (h1:t=true→jC z L true o ops r K m h n fs) (h2:t=false→jC z L false o ops r K m h n fs):jC z L t o ops r K m h n fs:=by
 cases t<;>first |exact h1 rfl |exact h2 rfl
theorem BH {L:List (Nat×Nat)} {o:Oper} {ops r:List Oper} {fs:List cm} {t:Bool} (h1:t=false→jC z L true o ops r K m h n fs) (h2:t=true→jC z L false o ops r K m h n fs):jC z L (!t) o ops r K m h n fs:=by
 cases t<;>first |exact h1 rfl |exact h2 rfl
theorem EH {o:Oper} {ops r:List Oper} (h1: ¬ p→jB z true o ops r K m h n) (h2:p→jB z false o ops r K m h n):jB z (decide (¬p)) o ops r K m h n:=by
 by_cases hp:p
 ·simpa [hp] using h2 hp
 ·simpa [hp] using h1 hp
theorem EJ {L:List (Nat×Nat)} {o:Oper} {ops r:List Oper} {fs:List cm} (h1: ¬ p→jC z L true o ops r K m h n fs) (h2:p→jC z L false o ops r K m h n fs):jC z L (decide (¬p)) o ops r K m h n fs:=by
 by_cases hp:p
 ·simpa [hp] using h2 hp
 ·simpa [hp] using h1 hp
end
attribute [go_sem] not_true_eq_false not_false_eq_true false_and and_false true_or or_true false_or or_false Decidable.not_not
section ops
variable {P:Program} {ρ:Operand→Value} {d:Option Tmp} {ty:TypeId} {pos:String} {af:Array Edge} {g:Option (Nat×Bool)}
@[go_sem] theorem QN {sz by' zl len cap:Nat} {base:Option Addr} {x:Value} {fb:AP aJ}:Xn (some (sz,by',zl)) (.slice base len cap) x fb=((j9 sz x).bind fun p=>HK sz by' zl base len cap p.1 p.2).bind fun v => .pure (.value v):=rfl
@[go_sem] theorem Lz {sz n c:Nat}:j9 sz (.slice none n c) = .pure (n,[]):=rfl
def Tp (off k n:Nat):aj→AP (Nat×List Value)
 | .cells c _=>match bp c off k with |some l => .pure (n,l) |none => .fail "cells"
 | _ => .fail "cells"
@[go_sem] theorem LA {sz b off n c:Nat} {sp:Option Nat}:j9 sz (.slice (some ⟨b,off,sp⟩) n c) = .get b (Tp off (n*sz) n):=rfl
@[go_sem] theorem Tq {off k n:Nat} {L:List Value} {ro:Bool}:Tp off k n (.cells (PT.ofList .leaf 0 L) ro)=cond (Nat.ble (off+k) L.length||Nat.beq k 0) (.pure (n,(L.drop off).take k)) (.fail "cells"):=by
 simp only[Tp,dO]
 cases (Nat.ble (off+k) L.length||Nat.beq k 0)<;>rfl
@[go_sem] theorem Oj {s by' zl len cap n:Nat} {new:List Value}:HK s by' zl none len cap n new=cond (Nat.beq n 0&&Nat.ble len cap&&new.isEmpty) (.pure (.slice none len cap)) (cond (Nat.ble aB cap) (.fail "append") (cond (Nat.ble (len+n) cap) (.fail "append") (nR s by' zl len n [] new))):=rfl
def LB (b off s by' zl len n:Nat) (new:List Value):aj→AP Value
 | .cells c false=>match bp c off (len*s) with
  |some old => .kill b (nR s by' zl len n old new)
  |none => .fail "append"
 | _ => .fail "append"
def LC (b off s len cap n:Nat) (sp:Option Nat) (new:List Value):aj→AP Value
 | .cells c false=>match bQ c (off+len*s) new with
  |some c' => .set b (.cells c' false) (.pure (.slice (some ⟨b,off,sp⟩) (len+n) cap))
  |none => .fail "append"
 | _ => .fail "append"
@[go_sem] theorem Ol {s by' zl len cap n b off:Nat} {sp:Option Nat} {new:List Value}:HK s by' zl (some ⟨b,off,sp⟩) len cap n new=cond (Nat.beq n 0&&Nat.ble len cap&&new.isEmpty) (.pure (.slice (some ⟨b,off,sp⟩) len cap))
  (cond (Nat.ble aB cap) (cond (Nat.beq cap (aB+s)&&new.all bn) (.get b (LB b off s by' zl len n new)) (.fail "append"))
   (cond (Nat.ble (len+n) cap) (.get b (LC b off s len cap n sp new)) ((AP.get b (Tp off (len*s) len)).bind fun p=>nR s by' zl len n p.2 new))):=rfl
@[go_sem] theorem QO {b off s by' zl len n:Nat} {new L:List Value}:LB b off s by' zl len n new (.cells (PT.ofList .leaf 0 L) false)=cond (Nat.ble (off+len*s) L.length||Nat.beq (len*s) 0) (.kill b (nR s by' zl len n ((L.drop off).take (len*s)) new)) (.fail "append"):=by
 simp only[LB,dO]
 cases (Nat.ble (off+len*s) L.length||Nat.beq (len*s) 0)<;>rfl
@[go_sem] theorem QS {b off s len cap n:Nat} {sp:Option Nat} {new L:List Value}:LC b off s len cap n sp new (.cells (PT.ofList .leaf 0 L) false)=cond ((Nat.ble (off+len*s+new.length) L.length||new.isEmpty)&&new.all bn) (.set b (.cells (PT.ofList .leaf 0 (nQ L (off+len*s) new)) false) (.pure (.slice (some ⟨b,off,sp⟩) (len+n) cap))) (.fail "append"):=by
 simp only[LC,gn]
 cases ((Nat.ble (off+len*s+new.length) L.length||new.isEmpty)&&new.all bn)<;>rfl
@[go_sem] theorem Om {s by' zl len n:Nat} {old new:List Value}:nR s by' zl len n old new=cond (Nat.ble (len+n) 1048576&&Nat.ble by' 65536&&Nat.beq zl s&&Nat.beq old.length (len*s)&&Nat.beq new.length (n*s))
  (.new (.cells (PT.ofList .leaf 0 (old++new)) false) fun id => .pure (.slice (some ⟨id,0,none⟩) (len+n) (aB+s))) (.fail "append"):=rfl
@[go_sem] theorem LD {c:Nat} (h:c<4611686018427387904):Nat.ble aB c=false:=fc (by unfold aB;omega)
@[go_sem] theorem wJ {c:Nat}:Nat.ble aB (aB+c)=true:=lS (by omega)
@[go_sem] theorem td {α:Type} {f:α→Value} {l:List α}:(l.map f).take l.length=l.map f:=by rw[List.take_of_length_le (by simp)]
def QT (u:Option TypeDesc) (neg:Bool) (x:Option Addr):AP aJ:=match u with
 |some (.slice _) => .pure (.value (.bool (x.isNone^^neg)))
 | _ => .fail "equal"
section
variable {t:TypeId} {cx cy:Bool}
theorem qp {D:Nat} {x:Option Addr} {n c n' c':Nat}:bS P (D+1) t (.slice x n c) (.slice none n' c')=match P.underlying t with |some (.slice _) => .pure x.isNone | _ => .fail "equal":=by
 unfold bS
 cases P.underlying t with
 |none=>cases x<;>rfl
 |some u=>cases u<;>cases x<;>rfl
@[go_sem] theorem HL {x:Option Addr} {n c n' c':Nat}:cX P .eql t cx cy (.slice x n c) (.slice none n' c')=QT (P.underlying t) false x:=by
 have:cX P .eql t cx cy (.slice x n c) (.slice none n' c')=AP.bind ((bS P (11+1) t (.slice x n c) (.slice none n' c')).bind fun b => .pure (.bool b)) fun v => .pure (.value v):=by
  simp only[cX,fO,bU,cond_true]
 rw[this,qp];unfold QT
 cases P.underlying t with
 |none=>rfl
 |some u=>cases u<;>first |rfl | (cases x<;>rfl)
@[go_sem] theorem HM {x:Option Addr} {n c n' c':Nat}:cX P .neq t cx cy (.slice x n c) (.slice none n' c')=QT (P.underlying t) true x:=by
 have:cX P .neq t cx cy (.slice x n c) (.slice none n' c')=AP.bind ((bS P (11+1) t (.slice x n c) (.slice none n' c')).bind fun b => .pure (.bool !b)) fun v => .pure (.value v):=by
  simp only[cX,fO,bU,cond_true]
 rw[this,qp];unfold QT
 cases P.underlying t with
 |none=>rfl
 |some u=>cases u<;>first |rfl | (cases x<;>rfl)
@[go_sem] theorem Oo {e:TypeId} {neg:Bool} {x:Option Addr}:QT (some (.slice e)) neg x = .pure (.value (.bool (x.isNone^^neg))):=rfl
theorem qq {D:Nat} {a b:Bool}:bS P (D+1) t (.bool a) (.bool b)=match P.underlying t with |some .bool => .pure (a==b) | _ => .fail "equal":=by
 unfold bS
 cases P.underlying t with
 |none=>rfl
 |some u=>cases u<;>rfl
def EK (u:Option TypeDesc) (neg:Bool) (a b:Bool):AP aJ:=match u with
 |some .bool => .pure (.value (.bool ((a==b)^^neg)))
 | _ => .fail "equal"
@[go_sem] theorem HN {a b:Bool}:cX P .eql t cx cy (.bool a) (.bool b)=EK (P.underlying t) false a b:=by
 have:cX P .eql t cx cy (.bool a) (.bool b)=AP.bind ((bS P (11+1) t (.bool a) (.bool b)).bind fun b => .pure (.bool b)) fun v => .pure (.value v):=by
  simp only[cX,fO,bU,cond_true]
 rw[this,qq];unfold EK
 cases P.underlying t with
 |none=>rfl
 |some u=>cases u<;>first |rfl | (cases a<;>cases b<;>rfl)
@[go_sem] theorem HO {a b:Bool}:cX P .neq t cx cy (.bool a) (.bool b)=EK (P.underlying t) true a b:=by
 have:cX P .neq t cx cy (.bool a) (.bool b)=AP.bind ((bS P (11+1) t (.bool a) (.bool b)).bind fun b => .pure (.bool !b)) fun v => .pure (.value v):=by
  simp only[cX,fO,bU,cond_true]
 rw[this,qq];unfold EK
 cases P.underlying t with
 |none=>rfl
 |some u=>cases u<;>first |rfl | (cases a<;>cases b<;>rfl)
@[go_sem] theorem Oq {neg a b:Bool}:EK (some .bool) neg a b = .pure (.value (.bool ((a==b)^^neg))):=rfl
end
def Ot (P:Program) (t:TypeId) (x:Value) (lo hi mx:Option Value):AP aJ:=(qX P t x lo hi mx).bind fun v => .pure (.value v)
@[go_sem] theorem Ou {t:TypeId} {x:Operand} {lo hi mx:Option Operand}:jA P ρ ⟨d,.slice t x lo hi mx,ty,pos,af,g⟩=Ot P t (ρ x) (lo.map ρ) (hi.map ρ) (mx.map ρ):=rfl
def QU (a:Addr) (s len cap:Nat) (lo hi:Option Nat):AP aJ:=match hi,lo with
 |some h,some l=>
  cond (Nat.ble l h&&Nat.ble h (cond (Nat.ble aB cap) len cap))
   (cond (Nat.ble aB cap) (cond (Nat.beq cap (aB+s)) (.pure (.value (.slice (some (jf a (l*s))) (h-l) cap))) (.fail "slice"))
    (.pure (.value (.slice (some (cond (Nat.beq cap l) a (jf a (l*s)))) (h-l) (cap-l))))) (.fail "slice")
 | _,_ => .fail "slice"
def Xo (k:Option (Option Nat×Nat)) (a:Addr) (len cap:Nat) (lo hi:Option Value):AP aJ:=match k with
 |some (none,s)=>QU a s len cap (dS 0 lo) (dS len hi)
 | _ => .fail "slice"
@[go_sem] theorem Ov {t:TypeId} {a:Addr} {len cap:Nat} {lo hi:Option Value}:Ot P t (.slice (some a) len cap) lo hi none=Xo (sS P t) a len cap lo hi:=by
 unfold Ot qX Xo sS
 cases P.underlying t with
 |none=>rfl
 |some u=>
  cases u with
  |slice e=>
   dsimp only
   cases P.info? e with
   |none=>rfl
   |some i=>
    simp only[Option.map_some,iN,QU]
    cases dS len hi with
    |none=>rfl
    |some h=>cases dS 0 lo with
     |none=>rfl
     |some l=>
      dsimp only
      cases (Nat.ble l h&&Nat.ble h (cond (Nat.ble aB cap) len cap)) with
      |false=>rfl
      |true=>
       simp only[cond_true]
       cases Nat.ble aB cap with
       |false=>rfl
       |true=>simp only[cond_true];cases Nat.beq cap (aB+i.size)<;>rfl
  |array len e=>dsimp only;cases P.info? e<;>rfl
  | _=>rfl
@[go_sem] theorem QV {s len cap:Nat} {a:Addr} {lo hi:Option Value}:Xo (some (none,s)) a len cap lo hi=QU a s len cap (dS 0 lo) (dS len hi):=rfl
@[go_sem] theorem HP {n:Nat}:dS n none=some n:=rfl
@[go_sem] theorem HQ {n:Nat} {v:Value}:dS n (some v)=asNat v:=rfl
@[go_sem] theorem Tr {b off s len l h:Nat} {sp:Option Nat}:QU ⟨b,off,sp⟩ s len (aB+s) (some l) (some h)=cond (Nat.ble l h&&Nat.ble h len) (.pure (.value (.slice (some ⟨b,off+l*s,none⟩) (h-l) (aB+s)))) (.fail "slice"):=by
 simp only[QU,wJ,cond_true,Eg,jf]
@[go_sem] theorem QW {ts:List TypeId} {k k':IntKind} {a b:Int}:uN P .min ts [.int k a,.int k' b] = .pure (.value (.int k (if b<a then b else a))):=rfl
@[go_sem] theorem QX {ts:List TypeId} {k k':IntKind} {a b:Int}:uN P .max ts [.int k a,.int k' b] = .pure (.value (.int k (if b>a then b else a))):=rfl
end ops
end Go.Am
namespace Go.Am
section
variable {z:Zx} {K:List KF} {m:Tm} {h:PT aj} {n:Nat} {p:Prop} [Decidable p] {a b:Code} {o:Oper} {ops r:List Oper} {t:Bool} {L:List (Nat×Nat)} {fs:List cm}
theorem xc1 (h1: ¬ p→eZ z a K m h n) (h2:p→eZ z b K m h n):yL z (.bool (decide (¬p))) a b K m h n:=EE h1 h2
theorem xc2 (h1:p→eZ z a K m h n) (h2: ¬ p→eZ z b K m h n):yL z (.bool (decide p)) a b K m h n:=G8 h1 h2
theorem xc3 (h1:t=false→eZ z a K m h n) (h2:t=true→eZ z b K m h n):yL z (.bool !t) a b K m h n:=BF h1 h2
theorem xc4 (h1:t=true→eZ z a K m h n) (h2:t=false→eZ z b K m h n):yL z (.bool t) a b K m h n:=wu h1 h2
theorem xg1 (h1: ¬ p→jB z true o ops r K m h n) (h2:p→jB z false o ops r K m h n):jB z (decide (¬p)) o ops r K m h n:=EH h1 h2
theorem xg2 (h1:p→jB z true o ops r K m h n) (h2: ¬ p→jB z false o ops r K m h n):jB z (decide p) o ops r K m h n:=Hw h1 h2
theorem xg3 (h1:t=false→jB z true o ops r K m h n) (h2:t=true→jB z false o ops r K m h n):jB z (!t) o ops r K m h n:=BG h1 h2
theorem xg4 (h1:t=true→jB z true o ops r K m h n) (h2:t=false→jB z false o ops r K m h n):jB z t o ops r K m h n:=EF h1 h2
theorem xh1 (h1: ¬ p→jC z L true o ops r K m h n fs) (h2:p→jC z L false o ops r K m h n fs):jC z L (decide (¬p)) o ops r K m h n fs:=EJ h1 h2
theorem xh2 (h1:p→jC z L true o ops r K m h n fs) (h2: ¬ p→jC z L false o ops r K m h n fs):jC z L (decide p) o ops r K m h n fs:=Hx h1 h2
theorem xh3 (h1:t=false→jC z L true o ops r K m h n fs) (h2:t=true→jC z L false o ops r K m h n fs):jC z L (!t) o ops r K m h n fs:=BH h1 h2
theorem xh4 (h1:t=true→jC z L true o ops r K m h n fs) (h2:t=false→jC z L false o ops r K m h n fs):jC z L t o ops r K m h n fs:=EG h1 h2
end
end Go.Am
