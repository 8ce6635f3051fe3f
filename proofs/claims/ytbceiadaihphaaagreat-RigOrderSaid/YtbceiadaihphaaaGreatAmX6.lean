/-
  The abstract machine, for proofs with variables: what each operation does, in a form that simp works out.
-/
import Derived.Test.YtbceiadaihphaaaGreatAmX5
import Derived.Attr
set_option linter.unusedSimpArgs false
set_option linter.unusedVariables false
namespace Go.Am
attribute [go_sem] G5 Bg Bh DR Bi DS G6 DU yM
 KY wm yK DT uI s6 G7 uJ wq KZ
 rZ pK G9 DV DW Bj tP yN DX Bl DY G_ DZ He D0 D1 Hf Bm D2
 Hl D8 D9 Bo tS yP D_ Bp Ea Ho Bq Hp Ec Br Hq Bt Bu
 K0 K1
@[congr] theorem NA {z:Zx} {c:Code} {K:List KF} {m:Tm} {h:PT aj} {n:Nat}:eZ z c K m h n=eZ z c K m h n:=rfl
@[congr] theorem NB {z:Zx} {ops r:List Oper} {K:List KF} {m:Tm} {h:PT aj} {n:Nat}:F5 z ops r K m h n=F5 z ops r K m h n:=rfl
@[congr] theorem P7 {z:Zx} {e e':bJ} {K:List KF} {m:Tm} {h:PT aj} {n:Nat} (he:e=e'):Rs z K e m h n=Rs z K e' m h n:=by rw[he]
@[congr] theorem NC {z:Zx} {w w':Bool} {o:Oper} {ops r:List Oper} {K:List KF} {m:Tm} {h:PT aj} {n:Nat} (hw:w=w'):jB z w o ops r K m h n=jB z w' o ops r K m h n:=by rw[hw]
@[congr] theorem ND {z:Zx} {p p':AP aJ} {d:Option Nat} {ops r:List Oper} {K:List KF} {m:Tm} {h:PT aj} {n:Nat} (hp:p=p'):kU z p d ops r K m h n=kU z p' d ops r K m h n:=by rw[hp]
@[congr] theorem NF {z:Zx} {b b':Option aj} {f:aj→AP aJ} {d:Option Nat} {ops r:List Oper} {K:List KF} {m:Tm} {h:PT aj} {n:Nat} (hb:b=b'):P0 z b f d ops r K m h n=P0 z b' f d ops r K m h n:=by rw[hb]
@[congr] theorem NG {z:Zx} {o o':Option aj} {id:Nat} {b:Option aj} {p:AP aJ} {d:Option Nat} {ops r:List Oper} {K:List KF} {m:Tm} {h:PT aj} {n:Nat} (ho:o=o'):K2 z o id b p d ops r K m h n=K2 z o' id b p d ops r K m h n:=by rw[ho]
@[congr] theorem NH {z:Zx} {s s':Option (AP Value)} {f:FuncId} {args:List Value} {d:Option Nat} {ops r:List Oper} {K:List KF} {m:Tm} {h:PT aj} {n:Nat} (hs:s=s'):K3 z s f args d ops r K m h n=K3 z s' f args d ops r K m h n:=by rw[hs]
@[congr] theorem NI {z:Zx} {L:List (Nat×Nat)} {ops r:List Oper} {K:List KF} {m:Tm} {h:PT aj} {n:Nat} {fs:List cm}:CK z L ops r K m h n fs=CK z L ops r K m h n fs:=rfl
@[congr] theorem NJ {z:Zx} {L:List (Nat×Nat)} {w w':Bool} {o:Oper} {ops r:List Oper} {K:List KF} {m:Tm} {h:PT aj} {n:Nat} {fs:List cm} (hw:w=w'):jC z L w o ops r K m h n fs=jC z L w' o ops r K m h n fs:=by rw[hw]
@[congr] theorem NK {z:Zx} {L:List (Nat×Nat)} {p p':AP aJ} {d:Option Nat} {ops r:List Oper} {K:List KF} {m:Tm} {h:PT aj} {n lo:Nat} {rd wr:List Nat} {fs:List cm} (hp:p=p'):nr z L p d ops r K m h n lo rd wr fs=nr z L p' d ops r K m h n lo rd wr fs:=by rw[hp]
@[congr] theorem K9 {z:Zx} {L:List (Nat×Nat)} {b b':Option aj} {f:aj→AP aJ} {d:Option Nat} {ops r:List Oper} {K:List KF} {m:Tm} {h:PT aj} {n lo:Nat} {rd wr:List Nat} {fs:List cm} (hb:b=b'):Eb z L b f d ops r K m h n lo rd wr fs=Eb z L b' f d ops r K m h n lo rd wr fs:=by rw[hb]
@[congr] theorem K_ {z:Zx} {L:List (Nat×Nat)} {o o':Option aj} {id:Nat} {b:Option aj} {p:AP aJ} {d:Option Nat} {ops r:List Oper} {K:List KF} {m:Tm} {h:PT aj} {n lo:Nat} {rd wr:List Nat} {fs:List cm} (ho:o=o'):yQ z L o id b p d ops r K m h n lo rd wr fs=yQ z L o' id b p d ops r K m h n lo rd wr fs:=by rw[ho]
@[congr] theorem La {z:Zx} {L:List (Nat×Nat)} {s s':Option (AP Value)} {f:FuncId} {args:List Value} {d:Option Nat} {ops r:List Oper} {K:List KF} {m:Tm} {h:PT aj} {n lo:Nat} {rd wr:List Nat} {fs:List cm} (hs:s=s'):Bs z L s f args d ops r K m h n lo rd wr fs=Bs z L s' f args d ops r K m h n lo rd wr fs:=by rw[hs]
@[congr] theorem P8 {m:Tm} {i:Nat} {v:Value}:up m i v=up m i v:=rfl
@[go_sem] theorem Xf {m:Tm} {i j:Nat} {v:Value}:(up m i v).get j=if i=j then v else m.get j:=by
 by_cases h:i=j
 ·subst h;rw[if_pos rfl,wz]
 ·rw[if_neg h,Bk h]
@[go_sem] theorem P9 {m:Tm} {i:Nat}:m.eval (.tmp i)=m.get i:=rfl
@[go_sem] theorem eval_const {m:Tm} {v:Value}:m.eval (.const v)=v:=rfl
@[go_sem] theorem eval_func {m:Tm} {f:FuncId}:m.eval (.func f) = .func (.func f) ⟨[]⟩ ⟨[]⟩:=rfl
@[go_sem] theorem P_ {N:Nat} {L:List Value} {D:List Nat} {i:Nat}:(⟨N,PT.ofList .leaf 0 L,D⟩:Tm).get i=(L[i]?).getD ij:=by
 unfold Tm.get
 simp only[PT.bf]
 cases L[i]? <;> rfl
@[go_sem] theorem cG {h:PT aj} {i:Nat} {b:Option aj}:(h.set i b).get i=b:=PT.gi _ _ _
@[go_sem] theorem bO {h:PT aj} {i j:Nat} {b:Option aj} (hij:i≠j):(h.set i b).get j=h.get j:=PT.cF _ _ hij
@[go_sem] theorem Lb {a b:Nat} (h:a≠b):Nat.beq a b=false:=by
 cases hb:Nat.beq a b with
 |false=>rfl
 |true=>exact absurd (Nat.eq_of_beq_eq_true hb) h
@[go_sem] theorem Eg (a:Nat):Nat.beq a a=true:=by
 induction a with
 |zero=>rfl
 |succ n ih=>exact ih
@[go_sem] theorem lS {a b:Nat} (h:a≤b):Nat.ble a b=true:=Nat.ble_eq_true_of_le h
@[go_sem] theorem fc {a b:Nat} (h:b<a):Nat.ble a b=false:=by
 cases hb:Nat.ble a b with
 |false=>rfl
 |true=>exact absurd (Nat.le_of_ble_eq_true hb) (by omega)
@[go_sem] theorem Qa {a b:Nat} (h:a<b):Nat.blt a b=true:=Nat.ble_eq_true_of_le h
@[go_sem] theorem Bx {a b:Nat} (h:b≤a):Nat.blt a b=false:=fc (by omega)
@[go_sem] theorem NL {k:IntKind} {i:Int} (h:0≤i):asNat (.int k i)=some i.toNat:=by
 obtain⟨n,rfl⟩:=Int.eq_ofNat_of_zero_le h
 rfl
@[go_sem] theorem NN {k:IntKind} {n:Nat}:asNat (.int k (n:Int))=some n:=rfl
@[go_sem] theorem NP (n:Nat):(n:Int).toNat=n:=rfl
@[go_sem] theorem Qb {n:Nat} {k:IntKind} {i:Int}:flat n (.int k i)=true:=by cases n<;>rfl
@[go_sem] theorem NQ {n:Nat} {b:Bool}:flat n (.bool b)=true:=by cases n<;>rfl
@[go_sem] theorem Lc {i:Nat}:bt (.tmp i)=true:=rfl
@[go_sem] theorem JD {i:Nat}:bt (.func i)=true:=rfl
@[go_sem] theorem Ld {k:IntKind} {i:Int}:bt (.const (.int k i))=true:=rfl
@[go_sem] theorem JE {b:Bool}:bt (.const (.bool b))=true:=rfl
@[go_sem] theorem F6:bt (.const (.pointer none))=true:=rfl
@[go_sem] theorem CL {n c:Nat}:bt (.const (.slice none n c))=true:=rfl
@[go_sem] theorem Le {s:ByteArray}:bt (.const (.string s))=true:=rfl
@[go_sem] theorem F7:bt (.const (.map none))=true:=rfl
@[go_sem] theorem Eh:bt (.const .nilFunc)=true:=rfl
@[go_sem] theorem CM:bt (.const .nilIface)=true:=rfl
@[go_sem] theorem Lg {l:Array Value}:bt (.const (.agg l))=l.toList.all (flat 3):=rfl
@[go_sem] theorem Ht {ops:List Oper} {m:Tm} {d:Option Tmp} {op:Op} {t:TypeId} {pos:String} {af:Array Edge}:cI ops m ⟨d,op,t,pos,af,none⟩=true:=rfl
def r5 (v:Option Value) (want:Bool):Bool:=match v with
 |some (.bool b)=>b==want
 | _=>false
def pO (ops:List Oper) (j:Nat):Option Nat:=match ops[j]? with
 |some o=>o.dst
 |none=>none
@[go_sem] theorem Hu {ops:List Oper} {m:Tm} {d:Option Tmp} {op:Op} {t:TypeId} {pos:String} {af:Array Edge} {j:Nat} {want:Bool}:
  cI ops m ⟨d,op,t,pos,af,some (j,want)⟩=r5 ((pO ops j).map m.get) want:=by
 simp only[cI,gV,r5,pO]
 cases ops[j]? with
 |none=>rfl
 |some o=>
  simp only
  cases o.dst with
  |none=>rfl
  |some d=>simp only[Option.map_some];cases m.get d<;>rfl
@[go_sem] theorem JF {b:Bool}:r5 (some (.bool b)) true=b:=by cases b<;>rfl
@[go_sem] theorem Hv {b:Bool}:r5 (some (.bool b)) false = !b:=by cases b<;>rfl
@[go_sem] theorem JG {o:Oper} {l:List Oper}:pO (o::l) 0=o.dst:=rfl
@[go_sem] theorem JH {o:Oper} {l:List Oper} {j:Nat}:pO (o::l) (j+1)=pO l j:=by simp[pO]
theorem Hw {z:Zx} {o:Oper} {ops r:List Oper} {K:List KF} {m:Tm} {h:PT aj} {n:Nat} {p:Prop} [Decidable p] (h1:p→jB z true o ops r K m h n) (h2: ¬ p→jB z false o ops r K m h n):jB z (decide p) o ops r K m h n:=by
 by_cases hp:p
 ·simpa [hp] using h1 hp
 ·simpa [hp] using h2 hp
theorem Hx {z:Zx} {L:List (Nat×Nat)} {o:Oper} {ops r:List Oper} {K:List KF} {m:Tm} {h:PT aj} {n:Nat} {fs:List cm} {p:Prop} [Decidable p] (h1:p→jC z L true o ops r K m h n fs) (h2: ¬ p→jC z L false o ops r K m h n fs):jC z L (decide p) o ops r K m h n fs:=by
 by_cases hp:p
 ·simpa [hp] using h1 hp
 ·simpa [hp] using h2 hp
theorem dO (L:List Value):∀ (k off:Nat),bp (PT.ofList .leaf 0 L) off k=cond (Nat.ble (off+k) L.length||Nat.beq k 0) (some ((L.drop off).take k)) none
 |0,off=>by simp[bp]
 |k+1,off=>by
  rw[bp,PT.bf,show Nat.succ off=off+1 from rfl,dO L k (off+1)]
  by_cases h1:off<L.length
  ·rw[List.getElem?_eq_getElem h1]
   simp only
   by_cases h2:off+(k+1)≤L.length
   ·rw[lS h2,lS (show off+1+k≤L.length by omega)]
    simp only[Bool.true_or,cond_true]
    rw[List.drop_eq_getElem_cons h1,List.take_succ_cons]
   ·rw[fc (show L.length<off+(k+1) by omega),fc (show L.length<off+1+k by omega)]
    have:Nat.beq k 0=false:=Lb (by omega)
    simp[this,show Nat.beq (k+1) 0=false from rfl]
  ·rw[List.getElem?_eq_none (by omega),fc (show L.length<off+(k+1) by omega)]
   simp[show Nat.beq (k+1) 0=false from rfl]
def nQ:List Value→Nat→List Value→List Value
 |L,_,[]=>L
 |L,off,v::vs=>nQ (L.set off v) (off+1) vs
theorem wH:∀ (vs L:List Value) (off:Nat),(nQ L off vs).length=L.length
 | [],L,off=>rfl
 |v::vs,L,off=>by rw[nQ,wH vs];simp
theorem gn:∀ (vs L:List Value) (off:Nat),bQ (PT.ofList .leaf 0 L) off vs=cond ((Nat.ble (off+vs.length) L.length||vs.isEmpty)&&vs.all bn) (some (PT.ofList .leaf 0 (nQ L off vs))) none
 | [],L,off=>by simp[bQ,nQ]
 |v::vs,L,off=>by
  rw[bQ,PT.bf]
  by_cases h1:off<L.length
  ·rw[List.getElem?_eq_getElem h1]
   simp only
   cases hv:bn v with
   |false=>simp[hv]
   |true=>
    simp only[cond_true,List.all_cons,hv,Bool.true_and,List.isEmpty_cons,Bool.or_false,List.length_cons]
    rw[mJ _ _ _ h1,show Nat.succ off=off+1 from rfl,gn vs (L.set off v) (off+1)]
    simp only[List.length_set]
    by_cases h2:off+(vs.length+1)≤L.length
    ·rw[lS h2,lS (show off+1+vs.length≤L.length by omega)];rfl
    ·rw[fc (show L.length<off+(vs.length+1) by omega),fc (show L.length<off+1+vs.length by omega)]
     cases vs with
     |nil=>simp at h2;omega
     |cons x xs=>rfl
  ·rw[List.getElem?_eq_none (by omega)]
   have:Nat.ble (off+(v::vs).length) L.length=false:=fc (by simp;omega)
   rw[this];rfl
@[go_sem] theorem Qc {L:List Value} {off:Nat}:nQ L off []=L:=rfl
@[go_sem] theorem Qd {L:List Value} {off:Nat} {v:Value}:nQ L off [v]=L.set off v:=rfl
@[go_sem] theorem NR {L vs:List Value} {off:Nat} {v:Value}:nQ L off (v::vs)=nQ (L.set off v) (off+1) vs:=rfl
def bY (P:Program) (t:TypeId):Option Nat:=(P.info? t).map (·.size)
def b_ (P:Program) (t:TypeId):Option Bool:=(P.underlying t).map isAgg
def dg (P:Program) (t:TypeId):Option (List Value):=(zeroOf P t).map (·.cells.toList)
def cM (P:Program) (s:TypeId) (f:Nat):Option (Nat×Nat):=
 match P.underlying s with
 |some (.struct fs)=>match fs.toList[f]? with
  |some fd=>(P.info? fd.type).map fun i=>(fd.offset,i.size)
  |none=>none
 | _=>none
def cN (P:Program) (s:TypeId) (f:Nat):Option (Nat×Nat×Bool):=
 match P.underlying s with
 |some (.struct fs)=>match fs.toList[f]? with
  |some fd=>match P.info? fd.type,P.underlying fd.type with
   |some i,some d=>some (fd.offset,i.size,isAgg d)
   | _,_=>none
  |none=>none
 | _=>none
def sS (P:Program) (t:TypeId):Option (Option Nat×Nat):=
 match P.underlying t with
 |some (.array n e)=>(P.info? e).map fun i=>(some n,i.size)
 |some (.slice e)=>(P.info? e).map fun i=>(none,i.size)
 | _=>none
section ops
variable {P:Program} {ρ:Operand→Value} {d:Option Tmp} {ty:TypeId} {pos:String} {af:Array Edge} {g:Option (Nat×Bool)}
@[go_sem] theorem Ei {e:TypeId}:(Op.alloc e).operands=#[]:=rfl
@[go_sem] theorem F8 {x:Operand}:(Op.move x).operands=#[x]:=rfl
@[go_sem] theorem CN {x:Operand}:(Op.assign x).operands=#[x]:=rfl
@[go_sem] theorem Hy {t:TypeId} {x:Operand}:(Op.box t x).operands=#[x]:=rfl
@[go_sem] theorem F9 {t:TypeId} {x:Operand}:(Op.load t x).operands=#[x]:=rfl
@[go_sem] theorem Aa {x:Operand}:(Op.nilCheck x).operands=#[x]:=rfl
@[go_sem] theorem Ga {o:UnOp} {t:TypeId} {x:Operand}:(Op.unOp o t x).operands=#[x]:=rfl
@[go_sem] theorem By {s t:TypeId} {x:Operand}:(Op.convert s t x).operands=#[x]:=rfl
@[go_sem] theorem uM {t:TypeId} {x:Operand}:(Op.makeInterface t x).operands=#[x]:=rfl
@[go_sem] theorem yS {t:TypeId} {x:Operand} {f:Nat}:(Op.fieldAddr t x f).operands=#[x]:=rfl
@[go_sem] theorem Ej {t:TypeId} {x:Operand} {f:Nat}:(Op.field t x f).operands=#[x]:=rfl
@[go_sem] theorem Ek {t:TypeId} {x:Operand}:(Op.range t x).operands=#[x]:=rfl
@[go_sem] theorem Gb {b:Bool} {x:Operand}:(Op.next x b).operands=#[x]:=rfl
@[go_sem] theorem El {x:Operand}:(Op.entry x).operands=#[x]:=rfl
@[go_sem] theorem Bz {x:Operand} {i:Nat}:(Op.extract x i).operands=#[x]:=rfl
@[go_sem] theorem Gc {a b c:Operand}:(Op.pick a b c).operands=#[a,b,c]:=rfl
@[go_sem] theorem Em {t:TypeId} {ps:Array (Nat×Operand)}:(Op.build t ps).operands=(ps.toList.map (·.2)).toArray:=rfl
@[go_sem] theorem xL {t:TypeId} {n:Nat} {ps:Array (Nat×Operand)}:(Op.buildSlice t n ps).operands=(ps.toList.map (·.2)).toArray:=rfl
@[go_sem] theorem En {t:TypeId} {a v:Operand}:(Op.store t a v).operands=#[a,v]:=rfl
@[go_sem] theorem Eo {o:BinOp} {t:TypeId} {a v:Operand} {t':TypeId}:(Op.binOp o t a v t').operands=#[a,v]:=rfl
@[go_sem] theorem yT {t:TypeId} {a v:Operand}:(Op.makeSlice t a v).operands=#[a,v]:=rfl
@[go_sem] theorem yU {t:TypeId} {a v:Operand}:(Op.indexAddr t a v).operands=#[a,v]:=rfl
@[go_sem] theorem Ep {t:TypeId} {a v:Operand}:(Op.index t a v).operands=#[a,v]:=rfl
@[go_sem] theorem CO {t:TypeId} {a v:Operand} {b:Bool}:(Op.lookup t a v b).operands=#[a,v]:=rfl
@[go_sem] theorem Ab {f:Fn} {a v:Array Operand}:(Op.makeFunc f a v).operands=a++v:=rfl
@[go_sem] theorem BA {t:TypeId} {r:Option Operand}:(Op.makeMap t r).operands=r.toArray:=rfl
@[go_sem] theorem Er {t:TypeId} {x:Operand} {l h m:Option Operand}:(Op.slice t x l h m).operands=#[x]++l.toArray++h.toArray++m.toArray:=rfl
@[go_sem] theorem yV {t:TypeId} {a b c:Operand}:(Op.mapUpdate t a b c).operands=#[a,b,c]:=rfl
@[go_sem] theorem CP {t:TypeId} {a b c:Operand}:(Op.insert t a b c).operands=#[a,b,c]:=rfl
@[go_sem] theorem Gd {f:Operand} {as:Array Operand} {ts:Array TypeId}:(Op.call ⟨.value f,as,ts⟩).operands=(⟨.value f,as,ts⟩:Call).operands:=rfl
@[go_sem] theorem BD {b:Builtin} {as:Array Operand} {ts:Array TypeId}:(Op.call ⟨.builtin b,as,ts⟩).operands=(⟨.builtin b,as,ts⟩:Call).operands:=rfl
@[go_sem] theorem Qe {x:Operand}:jA P ρ ⟨d,.move x,ty,pos,af,g⟩ = .pure (.value (ρ x)):=rfl
@[go_sem] theorem Lh {x:Operand}:jA P ρ ⟨d,.assign x,ty,pos,af,g⟩ = .pure (.value (ρ x)):=rfl
def JI (c a b:Value):AP aJ:=match c with
 | .bool t => .pure (.value (cond t a b))
 | _ => .fail "pick"
@[go_sem] theorem Qf {c a b:Operand}:jA P ρ ⟨d,.pick c a b,ty,pos,af,g⟩=JI (ρ c) (ρ a) (ρ b):=rfl
@[go_sem] theorem Li {t:Bool} {a b:Value}:JI (.bool t) a b = .pure (.value (cond t a b)):=rfl
def qz (w:String) (o:Option Value):AP aJ:=match o with
 |some v => .pure (.value v)
 |none => .fail w
@[go_sem] theorem NS {w:String} {v:Value}:qz w (some v) = .pure (.value v):=rfl
@[go_sem] theorem bind_pure {α β:Type} {a:α} {f:α→AP β}:(AP.pure a).bind f=f a:=rfl
@[go_sem] theorem Qg {α β:Type} {id:Nat} {k:aj→AP α} {f:α→AP β}:(AP.get id k).bind f = .get id fun b=>(k b).bind f:=rfl
@[go_sem] theorem Qh {α β:Type} {id:Nat} {b:aj} {k:AP α} {f:α→AP β}:(AP.set id b k).bind f = .set id b (k.bind f):=rfl
@[go_sem] theorem NT {α β:Type} {id:Nat} {k:AP α} {f:α→AP β}:(AP.kill id k).bind f = .kill id (k.bind f):=rfl
@[go_sem] theorem Qi {α β:Type} {b:aj} {k:Nat→AP α} {f:α→AP β}:(AP.new b k).bind f = .new b fun i=>(k i).bind f:=rfl
def Qj (off:Nat):aj→AP aJ
 | .cells c _=>qz "load" (c.get off)
 | _ => .fail "load"
def Qk (off s:Nat):aj→AP aJ
 | .cells c _=>qz "load" ((bp c off s).map fun l => .agg ⟨l⟩)
 | _ => .fail "load"
def Ac (g:Option Bool) (s:Option Nat) (x:Value):AP aJ:=match x,s,g with
 | .pointer (some a),some s,some g => .get a.block (cond g (Qk a.off s) (Qj a.off))
 | _,_,_ => .fail "load"
@[go_sem] theorem Ql {t:TypeId} {a:Operand}:jA P ρ ⟨d,.load t a,ty,pos,af,g⟩=Ac (b_ P t) (bY P t) (ρ a):=by
 show (fT P t (ρ a)).bind _=_
 unfold fT Ac b_ bY
 generalize ρ a=x
 cases x with
 |pointer p=>
  cases p with
  |none=>rfl
  |some a=>
   cases P.info? t with
   |none=>rfl
   |some i=>
    cases P.underlying t with
    |none=>rfl
    |some u=>
     simp only[Option.map_some,AP.bind]
     congr 1
     funext b
     cases isAgg u<;>cases b<;>simp only[cond_true,cond_false,Qj,Qk]<;>first |rfl |skip
     ·rename_i c ro
      cases c.get a.off<;>rfl
     ·rename_i c ro
      cases bp c a.off i.size<;>rfl
 | _=>rfl
@[go_sem] theorem SQ {s b off:Nat} {sp:Option Nat}:Ac (some false) (some s) (.pointer (some ⟨b,off,sp⟩)) = .get b (Qj off):=rfl
@[go_sem] theorem SR {s b off:Nat} {sp:Option Nat}:Ac (some true) (some s) (.pointer (some ⟨b,off,sp⟩)) = .get b (Qk off s):=rfl
@[go_sem] theorem SS {L:List Value} {ro:Bool} {off:Nat}:Qj off (.cells (PT.ofList .leaf 0 L) ro)=qz "load" L[off]? := by simp[Qj,PT.bf]
@[go_sem] theorem SU {L:List Value} {ro:Bool} {off s:Nat}:Qk off s (.cells (PT.ofList .leaf 0 L) ro)=cond (Nat.ble (off+s) L.length||Nat.beq s 0) (.pure (.value (.agg ⟨(L.drop off).take s⟩))) (.fail "load"):=by
 simp only[Qk,dO]
 cases (Nat.ble (off+s) L.length||Nat.beq s 0)<;>rfl
def Qm (b off:Nat) (vs:List Value):aj→AP aJ
 | .cells c false=>match bQ c off vs with
  |some c' => .set b (.cells c' false) (.pure .skip)
  |none => .fail "store"
 | _ => .fail "store"
def yW (s:Option Nat) (x:Value) (vs:List Value):AP aJ:=match x,s with
 | .pointer (some a),some s=>cond (Nat.beq vs.length s) (.get a.block (Qm a.block a.off vs)) (.fail "store")
 | _,_ => .fail "store"
@[go_sem] theorem NU {t:TypeId} {a x:Operand}:jA P ρ ⟨d,.store t a x,ty,pos,af,g⟩=yW (bY P t) (ρ a) (ρ x).cells.toList:=by
 show (qT P t (ρ a) (ρ x)).bind _=_
 unfold qT yW bY
 generalize ρ a=y
 cases y with
 |pointer p=>
  cases p with
  |none=>rfl
  |some a=>
   cases P.info? t with
   |none=>rfl
   |some i=>
    simp only[Option.map_some]
    cases Nat.beq (ρ x).cells.toList.length i.size with
    |false=>rfl
    |true=>
     simp only[cond_true,AP.bind]
     congr 1
     funext b
     cases b with
     |cells c ro=>cases ro with
      |true=>rfl
      |false=>simp only[Qm];cases bQ c a.off (ρ x).cells.toList<;>rfl
     | _=>rfl
 | _=>rfl
@[go_sem] theorem Lj {s b off:Nat} {sp:Option Nat} {vs:List Value}:yW (some s) (.pointer (some ⟨b,off,sp⟩)) vs=cond (Nat.beq vs.length s) (.get b (Qm b off vs)) (.fail "store"):=rfl
@[go_sem] theorem SV {L vs:List Value} {b off:Nat}:Qm b off vs (.cells (PT.ofList .leaf 0 L) false)=cond ((Nat.ble (off+vs.length) L.length||vs.isEmpty)&&vs.all bn) (.set b (.cells (PT.ofList .leaf 0 (nQ L off vs)) false) (.pure .skip)) (.fail "store"):=by
 simp only[Qm,gn]
 cases ((Nat.ble (off+vs.length) L.length||vs.isEmpty)&&vs.all bn)<;>rfl
@[go_sem] theorem NV {k:IntKind} {n:Int}:(Value.int k n).cells=#[.int k n]:=rfl
@[go_sem] theorem Lk {b:Bool}:(Value.bool b).cells=#[.bool b]:=rfl
@[go_sem] theorem NW {a:Option Addr}:(Value.pointer a).cells=#[.pointer a]:=rfl
@[go_sem] theorem JJ {a:Option Addr} {n c:Nat}:(Value.slice a n c).cells=#[.slice a n c]:=rfl
@[go_sem] theorem NY {a:Option Nat}:(Value.map a).cells=#[.map a]:=rfl
@[go_sem] theorem Hz {s:ByteArray}:(Value.string s).cells=#[.string s]:=rfl
@[go_sem] theorem Ll {f:Fn} {x y:Array Value}:(Value.func f x y).cells=#[.func f x y]:=rfl
@[go_sem] theorem Ge:Value.nilFunc.cells=#[.nilFunc]:=rfl
@[go_sem] theorem JK {t:TypeId} {v:Value}:(Value.iface t v).cells=#[.iface t v]:=rfl
@[go_sem] theorem Es:Value.nilIface.cells=#[.nilIface]:=rfl
@[go_sem] theorem NZ {l:Array Value}:(Value.agg l).cells=l:=rfl
@[go_sem] theorem SW {k:IntKind} {n:Int}:bn (Value.int k n)=true:=rfl
@[go_sem] theorem Qn {b:Bool}:bn (Value.bool b)=true:=rfl
@[go_sem] theorem SX {a:Option Addr}:bn (Value.pointer a)=true:=rfl
@[go_sem] theorem N1 {a:Option Addr} {n c:Nat}:bn (Value.slice a n c)=true:=rfl
@[go_sem] theorem SY {a:Option Nat}:bn (Value.map a)=true:=rfl
@[go_sem] theorem Lm {s:ByteArray}:bn (Value.string s)=true:=rfl
@[go_sem] theorem Qo {f:Fn} {x y:Array Value}:bn (Value.func f x y)=true:=rfl
@[go_sem] theorem JL:bn Value.nilFunc=true:=rfl
@[go_sem] theorem N2 {t:TypeId} {v:Value}:bn (Value.iface t v)=true:=rfl
@[go_sem] theorem HA:bn Value.nilIface=true:=rfl
@[go_sem] theorem SZ {t:TypeId} {x:Operand}:jA P ρ ⟨d,.box t x,ty,pos,af,g⟩ = .new (.cells (PT.ofList .leaf 0 (ρ x).cells.toList) false) fun id => .pure (.value (.pointer (some ⟨id,0,none⟩))):=rfl
def Et (z:Option (List Value)):AP aJ:=match z with
 |some l => .new (.cells (PT.ofList .leaf 0 l) false) fun id => .pure (.value (.pointer (some ⟨id,0,none⟩)))
 |none => .fail "alloc"
@[go_sem] theorem N3 {t:TypeId}:jA P ρ ⟨d,.alloc t,ty,pos,af,g⟩=Et (dg P t):=by
 show (qU P t).bind _=_
 unfold qU dg
 cases zeroOf P t<;>rfl
@[go_sem] theorem JM {l:List Value}:Et (some l) = .new (.cells (PT.ofList .leaf 0 l) false) fun id => .pure (.value (.pointer (some ⟨id,0,none⟩))):=rfl
def Xg (f:Option (Nat×Nat)) (x:Value):AP aJ:=match x,f with
 | .pointer (some a),some (o,s)=>cond (Nat.beq s 0) (.fail "fieldAddr") (.pure (.value (.pointer (some (jf a o)))))
 | _,_ => .fail "fieldAddr"
@[go_sem] theorem Gf {t:TypeId} {x:Operand} {f:Nat}:jA P ρ ⟨d,.fieldAddr t x f,ty,pos,af,g⟩=Xg (cM P t f) (ρ x):=by
 show (iL P t (ρ x) f).bind _=_
 unfold iL Xg cM
 generalize ρ x=y
 cases y with
 |pointer p=>
  cases p with
  |none=>rfl
  |some a=>
   cases P.underlying t with
   |none=>rfl
   |some u=>
    cases u with
    |struct fs=>
     simp only
     cases fs.toList[f]? with
     |none=>rfl
     |some fd=>
      simp only
      cases P.info? fd.type with
      |none=>rfl
      |some i=>simp only[Option.map_some];cases Nat.beq i.size 0<;>rfl
    | _=>rfl
 | _=>rfl
@[go_sem] theorem S8 {b off:Nat} {sp:Option Nat} {o s:Nat}:Xg (some (o,s)) (.pointer (some ⟨b,off,sp⟩))=cond (Nat.beq s 0) (.fail "fieldAddr") (.pure (.value (.pointer (some ⟨b,off+o,none⟩)))):=rfl
def nu (cs:List Value) (off s:Nat) (agg:Bool):Option Value:=cond agg (some (.agg ⟨(cs.drop off).take s⟩)) cs[off]?
@[go_sem] theorem Ln {cs:List Value} {off s:Nat}:nu cs off s true=some (.agg ⟨(cs.drop off).take s⟩):=rfl
@[go_sem] theorem JN {cs:List Value} {off s:Nat}:nu cs off s false=cs[off]? := rfl
def Xh (f:Option (Nat×Nat×Bool)) (x:Value):AP aJ:=match x,f with
 | .agg cs,some (o,s,g)=>qz "field" (nu cs.toList o s g)
 | _,_ => .fail "field"
theorem wI {t:TypeId} {cs:List Value} {off:Nat}:jj P t cs off=match P.info? t,P.underlying t with |some i,some u=>nu cs off i.size (isAgg u) | _,_=>none:=by
 unfold jj
 cases P.info? t with
 |none=>rfl
 |some i=>cases P.underlying t with
  |none=>rfl
  |some u=>simp only[nu]
@[go_sem] theorem N4 {t:TypeId} {x:Operand} {f:Nat}:jA P ρ ⟨d,.field t x f,ty,pos,af,g⟩=Xh (cN P t f) (ρ x):=by
 show (qW P t (ρ x) f).bind _=_
 unfold qW Xh cN
 generalize ρ x=y
 cases y with
 |agg cs=>
  cases P.underlying t with
  |none=>rfl
  |some u=>
   cases u with
   |struct fs=>
    simp only
    cases fs.toList[f]? with
    |none=>rfl
    |some fd=>
     simp only[wI]
     cases P.info? fd.type with
     |none=>rfl
     |some i=>
      cases P.underlying fd.type with
      |none=>rfl
      |some u=>
       simp only[AP.opt]
       cases nu cs.toList fd.offset i.size (isAgg u)<;>rfl
   | _=>rfl
 | _=>rfl
@[go_sem] theorem S9 {cs:Array Value} {o s:Nat} {b:Bool}:Xh (some (o,s,b)) (.agg cs)=qz "field" (nu cs.toList o s b):=rfl
def S_ (k:Option (Option Nat×Nat)) (x:Value) (i:Option Nat):AP aJ:=match k,x,i with
 |some (some len,s),.pointer (some a),some n=>cond (Nat.blt n len) (.pure (.value (.pointer (some (jf a (n*s)))))) (.fail "indexAddr")
 |some (none,s),.slice (some a) len _,some n=>cond (Nat.blt n len) (.pure (.value (.pointer (some (jf a (n*s)))))) (.fail "indexAddr")
 | _,_,_ => .fail "indexAddr"
@[go_sem] theorem Gg {t:TypeId} {x i:Operand}:jA P ρ ⟨d,.indexAddr t x i,ty,pos,af,g⟩=S_ (sS P t) (ρ x) (asNat (ρ i)):=by
 show (iM P t (ρ x) (ρ i)).bind _=_
 unfold iM S_ sS
 generalize ρ x=y
 generalize asNat (ρ i)=j
 cases hu:P.underlying t with
 |none=>rfl
 |some u=>
  cases u with
  |array len e=>
   cases y with
   |pointer p=>cases p with
    |none=>cases j<;>dsimp only<;>cases P.info? e<;>rfl
    |some a=>cases j with
     |none=>dsimp only;cases P.info? e<;>rfl
     |some n=>
      dsimp only
      cases P.info? e with
      |none=>rfl
      |some i=>simp only[Option.map_some];cases Nat.blt n len<;>rfl
   | _=>dsimp only;cases P.info? e<;>rfl
  |slice e=>
   cases y with
   |slice p len c=>cases p with
    |none=>cases j<;>dsimp only<;>cases P.info? e<;>rfl
    |some a=>cases j with
     |none=>dsimp only;cases P.info? e<;>rfl
     |some n=>
      dsimp only
      cases P.info? e with
      |none=>rfl
      |some i=>simp only[Option.map_some];cases Nat.blt n len<;>rfl
   | _=>dsimp only;cases P.info? e<;>rfl
  | _=>rfl
@[go_sem] theorem Ta {len s b off n:Nat} {sp:Option Nat}:S_ (some (some len,s)) (.pointer (some ⟨b,off,sp⟩)) (some n)=cond (Nat.blt n len) (.pure (.value (.pointer (some ⟨b,off+n*s,none⟩)))) (.fail "indexAddr"):=rfl
@[go_sem] theorem N5 {len c s b off n:Nat} {sp:Option Nat}:S_ (some (none,s)) (.slice (some ⟨b,off,sp⟩) len c) (some n)=cond (Nat.blt n len) (.pure (.value (.pointer (some ⟨b,off+n*s,none⟩)))) (.fail "indexAddr"):=rfl
def Tb (k:Option (Nat×Nat×Bool)) (x:Value) (i:Option Nat):AP aJ:=match k,x,i with
 |some (len,s,b),.agg cs,some n=>cond (Nat.blt n len) (qz "index" (nu cs.toList (n*s) s b)) (.fail "index")
 |none,.string s,some n=>qz "index" (s.data.toList[n]?.map fun b => .int .u8 b.toNat)
 | _,_,_ => .fail "index"
def JO (P:Program) (t:TypeId):Option (Nat×Nat×Bool):=
 match P.underlying t with
 |some (.array n e)=>match P.info? e,P.underlying e with
  |some i,some u=>some (n,i.size,isAgg u)
  | _,_=>none
 | _=>none
theorem yX {t:TypeId} {x i:Operand} {cs:Array Value} (hx:ρ x = .agg cs):jA P ρ ⟨d,.index t x i,ty,pos,af,g⟩=Tb (JO P t) (.agg cs) (asNat (ρ i)):=by
 show (o9 P t (ρ x) (ρ i)).bind _=_
 rw[hx]
 unfold o9 Tb JO
 generalize asNat (ρ i)=j
 cases hu:P.underlying t with
 |none=>rfl
 |some u=>
  cases u with
  |array len e=>
   cases j with
   |none=>simp only;cases P.info? e with
    |none=>rfl
    |some i=>cases P.underlying e<;>rfl
   |some n=>
    simp only[wI]
    cases P.info? e with
    |none=>rfl
    |some i=>
     simp only
     cases P.underlying e with
     |none=>cases Nat.blt n len<;>rfl
     |some u=>simp only;cases Nat.blt n len with
      |false=>rfl
      |true=>simp only[cond_true];cases nu cs.toList (n*i.size) i.size (isAgg u)<;>rfl
  |string=>cases j<;>rfl
  | _=>rfl
def Eu (P:Program) (t:TypeId) (x i:Value):AP aJ:=(o9 P t x i).bind fun v => .pure (.value v)
@[go_sem] theorem N6 {t:TypeId} {x i:Operand}:jA P ρ ⟨d,.index t x i,ty,pos,af,g⟩=Eu P t (ρ x) (ρ i):=rfl
@[go_sem] theorem Lp {t:TypeId} {i:Value} {cs:Array Value}:Eu P t (.agg cs) i=Tb (JO P t) (.agg cs) (asNat i):=
 yX (ρ:=fun o=>match o with | .tmp 0 => .agg cs | _=>i) (x := .tmp 0) (i := .tmp 1) (d:=none) (ty:=0) (pos := "") (af:=#[]) (g:=none) rfl
@[go_sem] theorem Tc {len s n:Nat} {b:Bool} {cs:Array Value}:Tb (some (len,s,b)) (.agg cs) (some n)=cond (Nat.blt n len) (qz "index" (nu cs.toList (n*s) s b)) (.fail "index"):=rfl
def cX (P:Program) (o:BinOp) (t:TypeId) (cx cy:Bool) (x y:Value):AP aJ:=(fO P o t cx cy x y).bind fun v => .pure (.value v)
@[go_sem] theorem N7 {o:BinOp} {t t':TypeId} {x y:Operand}:jA P ρ ⟨d,.binOp o t x y t',ty,pos,af,g⟩=cX P o t (isConst x) (isConst y) (ρ x) (ρ y):=rfl
section
variable {t:TypeId} {cx cy:Bool} {k k':IntKind} {a b:Int}
@[go_sem] theorem Qp:cX P .add t cx cy (.int k a) (.int k b) = .pure (.value (.int k (k.wrap (a+b)))):=by show AP.bind (ite (k=k) _ _) _=_;rw[if_pos rfl];rfl
@[go_sem] theorem Qq:cX P .sub t cx cy (.int k a) (.int k b) = .pure (.value (.int k (k.wrap (a-b)))):=by show AP.bind (ite (k=k) _ _) _=_;rw[if_pos rfl];rfl
@[go_sem] theorem Qr:cX P .mul t cx cy (.int k a) (.int k b) = .pure (.value (.int k (k.wrap (a*b)))):=by show AP.bind (ite (k=k) _ _) _=_;rw[if_pos rfl];rfl
@[go_sem] theorem Qs:cX P .quo t cx cy (.int k a) (.int k b)=cond (decide (b=0)) (.fail "intOp") (.pure (.value (.int k (k.wrap (a.tdiv b))))):=by
 show AP.bind (ite (k=k) _ _) _=_
 rw[if_pos rfl]
 by_cases h:b=0<;>simp[intOp,h,AP.opt,AP.bind]
@[go_sem] theorem Qt:cX P .rem t cx cy (.int k a) (.int k b)=cond (decide (b=0)) (.fail "intOp") (.pure (.value (.int k (a.tmod b)))):=by
 show AP.bind (ite (k=k) _ _) _=_
 rw[if_pos rfl]
 by_cases h:b=0<;>simp[intOp,h,AP.opt,AP.bind]
@[go_sem] theorem Qu:cX P .and t cx cy (.int k a) (.int k b) = .pure (.value (.int k (k.wrap (BitVec.ofInt k.bits a&&&BitVec.ofInt k.bits b).toNat))):=by show AP.bind (ite (k=k) _ _) _=_;rw[if_pos rfl];rfl
@[go_sem] theorem Td:cX P .or t cx cy (.int k a) (.int k b) = .pure (.value (.int k (k.wrap (BitVec.ofInt k.bits a|||BitVec.ofInt k.bits b).toNat))):=by show AP.bind (ite (k=k) _ _) _=_;rw[if_pos rfl];rfl
@[go_sem] theorem Qv:cX P .eql t cx cy (.int k a) (.int k b) = .pure (.value (.bool (decide (a=b)))):=by show AP.bind (ite (k=k) _ _) _=_;rw[if_pos rfl];rfl
@[go_sem] theorem Qw:cX P .neq t cx cy (.int k a) (.int k b) = .pure (.value (.bool (decide (a≠b)))):=by show AP.bind (ite (k=k) _ _) _=_;rw[if_pos rfl];exact congrArg (fun z=>AP.pure (aJ.value (Value.bool z))) (by by_cases h:a=b<;>simp[h])
@[go_sem] theorem Qx:cX P .lss t cx cy (.int k a) (.int k b) = .pure (.value (.bool (decide (a<b)))):=by show AP.bind (ite (k=k) _ _) _=_;rw[if_pos rfl];rfl
@[go_sem] theorem Qy:cX P .leq t cx cy (.int k a) (.int k b) = .pure (.value (.bool (decide (a≤b)))):=by show AP.bind (ite (k=k) _ _) _=_;rw[if_pos rfl];rfl
@[go_sem] theorem Qz:cX P .gtr t cx cy (.int k a) (.int k b) = .pure (.value (.bool (decide (b<a)))):=by show AP.bind (ite (k=k) _ _) _=_;rw[if_pos rfl];rfl
@[go_sem] theorem QA:cX P .geq t cx cy (.int k a) (.int k b) = .pure (.value (.bool (decide (b≤a)))):=by show AP.bind (ite (k=k) _ _) _=_;rw[if_pos rfl];rfl
@[go_sem] theorem QB:cX P .shl t cx cy (.int k a) (.int k' b)=cond (decide (b<0)) (.fail "shl") (.pure (.value (.int k (k.wrap (a*2^min b.toNat k.bits))))):=by
 by_cases h:b<0<;>simp[cX,fO,shiftOp,AP.opt,h,AP.bind]
def Ew (u:Option TypeDesc) (neg:Bool) (x:Option Addr):AP aJ:=match u with
 |some (.pointer _) => .pure (.value (.bool (x.isNone^^neg)))
 | _ => .fail "equal"
theorem r6 {D:Nat} {x:Option Addr}:bS P (D+1) t (.pointer x) (.pointer none)=match P.underlying t with |some (.pointer _) => .pure x.isNone | _ => .fail "equal":=by
 unfold bS
 cases P.underlying t with
 |none=>cases x<;>rfl
 |some u=>cases u<;>cases x<;>rfl
@[go_sem] theorem JQ {x:Option Addr}:cX P .eql t cx cy (.pointer x) (.pointer none)=Ew (P.underlying t) false x:=by
 have:cX P .eql t cx cy (.pointer x) (.pointer none)=AP.bind ((bS P (11+1) t (.pointer x) (.pointer none)).bind fun b => .pure (.bool b)) fun v => .pure (.value v):=by
  simp only[cX,fO,bU,cond_true]
 rw[this,r6];unfold Ew
 cases P.underlying t with
 |none=>rfl
 |some u=>cases u<;>first |rfl | (cases x<;>rfl)
@[go_sem] theorem JR {x:Option Addr}:cX P .neq t cx cy (.pointer x) (.pointer none)=Ew (P.underlying t) true x:=by
 have:cX P .neq t cx cy (.pointer x) (.pointer none)=AP.bind ((bS P (11+1) t (.pointer x) (.pointer none)).bind fun b => .pure (.bool !b)) fun v => .pure (.value v):=by
  simp only[cX,fO,bU,cond_true]
 rw[this,r6];unfold Ew
 cases P.underlying t with
 |none=>rfl
 |some u=>cases u<;>first |rfl | (cases x<;>rfl)
@[go_sem] theorem QC {e:TypeId} {neg:Bool} {x:Option Addr}:Ew (some (.pointer e)) neg x = .pure (.value (.bool (x.isNone^^neg))):=rfl
end
def Te (o:UnOp) (x:Value):AP aJ:=qz "unOp" (o8 o x)
@[go_sem] theorem QD {o:UnOp} {t:TypeId} {x:Operand}:jA P ρ ⟨d,.unOp o t x,ty,pos,af,g⟩=Te o (ρ x):=by
 show (AP.opt "unOp" (o8 o (ρ x)) AP.pure).bind _=_
 unfold Te
 cases o8 o (ρ x)<;>rfl
@[go_sem] theorem Tf {k:IntKind} {a:Int}:Te .neg (.int k a) = .pure (.value (.int k (k.wrap (0-a)))):=rfl
@[go_sem] theorem Tg {b:Bool}:Te .not (.bool b) = .pure (.value (.bool !b)):=rfl
def Xi (s u:Option TypeDesc) (x:Value):AP aJ:=match s,u,x with
 |some _,some (.int k),.int _ n => .pure (.value (.int k (k.wrap n)))
 |some _,some .string,.string s => .pure (.value (.string s))
 | _,_,_ => .fail "convert"
@[go_sem] theorem JS {s t:TypeId} {x:Operand}:jA P ρ ⟨d,.convert s t x,ty,pos,af,g⟩=Xi (P.underlying s) (P.underlying t) (ρ x):=by
 show (lq P s t (ρ x)).bind _=_
 unfold lq Xi
 generalize ρ x=y
 cases P.underlying s with
 |none=>rfl
 |some a=>cases P.underlying t with
  |none=>rfl
  |some u=>cases u<;>cases y<;>rfl
@[go_sem] theorem Ti {u:TypeDesc} {k k':IntKind} {n:Int}:Xi (some u) (some (.int k)) (.int k' n) = .pure (.value (.int k (k.wrap n))):=rfl
def Z9 (x:Value):AP aJ:=(mA x).bind fun v => .pure (.value v)
@[go_sem] theorem HB {x:Operand}:jA P ρ ⟨d,.nilCheck x,ty,pos,af,g⟩=Z9 (ρ x):=rfl
@[go_sem] theorem Tj {a:Addr}:Z9 (.pointer (some a)) = .pure (.value (.pointer (some a))):=rfl
def Xj (x:Value) (i:Nat):AP aJ:=match x with
 | .tuple vs=>qz "extract" (vs.toList[i]?)
 | _ => .fail "extract"
@[go_sem] theorem JT {x:Operand} {i:Nat}:jA P ρ ⟨d,.extract x i,ty,pos,af,g⟩=Xj (ρ x) i:=by
 show (lz (ρ x) i).bind _=_
 unfold lz Xj
 cases ρ x<;>first |rfl |skip
 rename_i vs
 simp only[AP.opt]
 cases vs.toList[i]? <;> rfl
@[go_sem] theorem N8 {vs:Array Value} {i:Nat}:Xj (.tuple vs) i=qz "extract" (vs.toList[i]?):=rfl
@[go_sem] theorem HC {fn:Fn} {first captured:Array Operand}:jA P ρ ⟨d,.makeFunc fn first captured,ty,pos,af,g⟩=cond (mB fn) (.pure (.value (.func fn ⟨first.toList.map ρ⟩ ⟨captured.toList.map ρ⟩))) (.fail "makeFunc"):=rfl
@[go_sem] theorem HD {f:FuncId}:mB (.func f)=true:=rfl
def Ey (P:Program) (f:Value) (args:List Value):AP aJ:=match f with
 | .func fn first captured=>fI P fn captured.toList (first.toList++args)
 | _ => .fail "call nil function"
@[go_sem] theorem QE {f:Operand} {as:Array Operand} {ts:Array TypeId}:jA P ρ ⟨d,.call ⟨.value f,as,ts⟩,ty,pos,af,g⟩=Ey P (ρ f) (as.toList.map ρ):=rfl
@[go_sem] theorem Lq {f:FuncId} {first captured:Array Value} {args:List Value}:Ey P (.func (.func f) first captured) args=aq P f ((first.toList++args)++captured.toList):=rfl
def uN (P:Program) (b:Builtin) (ts:List TypeId) (args:List Value):AP aJ:=(lB P b ts args).bind fun v => .pure (.value v)
@[go_sem] theorem JU {b:Builtin} {as:Array Operand} {ts:Array TypeId}:jA P ρ ⟨d,.call ⟨.builtin b,as,ts⟩,ty,pos,af,g⟩=uN P b ts.toList (as.toList.map ρ):=rfl
def QF (P:Program) (u:Option TypeDesc) (x:Value):AP aJ:=(match u,x with
    |some .string,.string s=>(.pure (.int .i64 s.size):AP Value)
    |some (.array n _),_ => .pure (.int .i64 n)
    |some (.pointer arr),_=>match P.underlying arr with
     |some (.array n _) => .pure (.int .i64 n)
     | _ => .fail "len"
    |some (.slice _),.slice _ n _ => .pure (.int .i64 n)
    |some (.map _ _),x=>(mC x).bind fun es => .pure (.int .i64 es.length)
    | _,_ => .fail "len").bind fun v => .pure (.value v)
@[go_sem] theorem Lr {e:TypeId} {a:Option Addr} {n c:Nat}:QF P (some (.slice e)) (.slice a n c) = .pure (.value (.int .i64 n)):=rfl
@[go_sem] theorem QG {t:TypeId} {ts:List TypeId} {a:Option Addr} {n c:Nat}:uN P .len (t::ts) [.slice a n c]=QF P (P.underlying t) (.slice a n c):=rfl
end ops
end Go.Am
