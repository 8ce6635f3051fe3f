/-
  The abstract machine, for proofs with variables: what each operation does, in a form that simp works out.
-/
import Derived.Test.YtfhmopghjoeamaaGreatAmX5
import Derived.Attr
set_option linter.unusedSimpArgs false
set_option linter.unusedVariables false
namespace Go.Am
attribute [go_sem] B3 w9 w_ zj xd zk B4 zn uY
 EO sI uX zm qK o_ B5 qL sJ EP
 oz lK B7 zo zq xe pQ uZ zu xh zv vT sN B8 zw zx B9 xj zy
 Cc zE zF xm pT u6 zG xp zH Cd xq Ce zJ xu Cf xx xy
 ER ES
@[congr] theorem Gr {z:Zx} {c:Code} {K:List KF} {m:Tm} {h:PT ak} {n:Nat}:ec z c K m h n=ec z c K m h n:=rfl
@[congr] theorem Gs {z:Zx} {ops r:List Oper} {K:List KF} {m:Tm} {h:PT ak} {n:Nat}:Bc z ops r K m h n=Bc z ops r K m h n:=rfl
@[congr] theorem IW {z:Zx} {e e':bp} {K:List KF} {m:Tm} {h:PT ak} {n:Nat} (he:e=e'):Rs z K e m h n=Rs z K e' m h n:=by rw[he]
@[congr] theorem Gt {z:Zx} {v v':Value} {a b:Code} {K:List KF} {m:Tm} {h:PT ak} {n:Nat} (hv:v=v'):sK z v a b K m h n=sK z v' a b K m h n:=by rw[hv]
@[congr] theorem Gu {z:Zx} {w w':Bool} {o:Oper} {ops r:List Oper} {K:List KF} {m:Tm} {h:PT ak} {n:Nat} (hw:w=w'):gP z w o ops r K m h n=gP z w' o ops r K m h n:=by rw[hw]
@[congr] theorem Gv {z:Zx} {p p':AP aC} {d:Option Nat} {ops r:List Oper} {K:List KF} {m:Tm} {h:PT ak} {n:Nat} (hp:p=p'):ia z p d ops r K m h n=ia z p' d ops r K m h n:=by rw[hp]
@[congr] theorem Gw {z:Zx} {b b':Option ak} {f:ak→AP aC} {d:Option Nat} {ops r:List Oper} {K:List KF} {m:Tm} {h:PT ak} {n:Nat} (hb:b=b'):IK z b f d ops r K m h n=IK z b' f d ops r K m h n:=by rw[hb]
@[congr] theorem Gx {z:Zx} {o o':Option ak} {id:Nat} {b:Option ak} {p:AP aC} {d:Option Nat} {ops r:List Oper} {K:List KF} {m:Tm} {h:PT ak} {n:Nat} (ho:o=o'):ET z o id b p d ops r K m h n=ET z o' id b p d ops r K m h n:=by rw[ho]
@[congr] theorem Gy {z:Zx} {s s':Option (AP Value)} {f:FuncId} {args:List Value} {d:Option Nat} {ops r:List Oper} {K:List KF} {m:Tm} {h:PT ak} {n:Nat} (hs:s=s'):EU z s f args d ops r K m h n=EU z s' f args d ops r K m h n:=by rw[hs]
@[congr] theorem Gz {z:Zx} {L:List (Nat×Nat)} {ops r:List Oper} {K:List KF} {m:Tm} {h:PT ak} {n:Nat} {fs:List bD}:zD z L ops r K m h n fs=zD z L ops r K m h n fs:=rfl
@[congr] theorem GD {z:Zx} {L:List (Nat×Nat)} {w w':Bool} {o:Oper} {ops r:List Oper} {K:List KF} {m:Tm} {h:PT ak} {n:Nat} {fs:List bD} (hw:w=w'):gQ z L w o ops r K m h n fs=gQ z L w' o ops r K m h n fs:=by rw[hw]
@[congr] theorem GF {z:Zx} {L:List (Nat×Nat)} {p p':AP aC} {d:Option Nat} {ops r:List Oper} {K:List KF} {m:Tm} {h:PT ak} {n lo:Nat} {rd wr:List Nat} {fs:List bD} (hp:p=p'):jx z L p d ops r K m h n lo rd wr fs=jx z L p' d ops r K m h n lo rd wr fs:=by rw[hp]
@[congr] theorem EZ {z:Zx} {L:List (Nat×Nat)} {b b':Option ak} {f:ak→AP aC} {d:Option Nat} {ops r:List Oper} {K:List KF} {m:Tm} {h:PT ak} {n lo:Nat} {rd wr:List Nat} {fs:List bD} (hb:b=b'):zI z L b f d ops r K m h n lo rd wr fs=zI z L b' f d ops r K m h n lo rd wr fs:=by rw[hb]
@[congr] theorem E0 {z:Zx} {L:List (Nat×Nat)} {o o':Option ak} {id:Nat} {b:Option ak} {p:AP aC} {d:Option Nat} {ops r:List Oper} {K:List KF} {m:Tm} {h:PT ak} {n lo:Nat} {rd wr:List Nat} {fs:List bD} (ho:o=o'):u7 z L o id b p d ops r K m h n lo rd wr fs=u7 z L o' id b p d ops r K m h n lo rd wr fs:=by rw[ho]
@[congr] theorem E1 {z:Zx} {L:List (Nat×Nat)} {s s':Option (AP Value)} {f:FuncId} {args:List Value} {d:Option Nat} {ops r:List Oper} {K:List KF} {m:Tm} {h:PT ak} {n lo:Nat} {rd wr:List Nat} {fs:List bD} (hs:s=s'):xw z L s f args d ops r K m h n lo rd wr fs=xw z L s' f args d ops r K m h n lo rd wr fs:=by rw[hs]
@[congr] theorem IX {m:Tm} {i:Nat} {v:Value}:up m i v=up m i v:=rfl
@[go_sem] theorem Oy {m:Tm} {i j:Nat} {v:Value}:(up m i v).get j=if i=j then v else m.get j:=by
 by_cases h:i=j
 ·subst h;rw[if_pos rfl,sM]
 ·rw[if_neg h,xg h]
@[go_sem] theorem IY {m:Tm} {i:Nat}:m.eval (.tmp i)=m.get i:=rfl
@[go_sem] theorem eval_const {m:Tm} {v:Value}:m.eval (.const v)=v:=rfl
@[go_sem] theorem eval_func {m:Tm} {f:FuncId}:m.eval (.func f) = .func (.func f) ⟨[]⟩ ⟨[]⟩:=rfl
@[go_sem] theorem IZ {N:Nat} {L:List Value} {D:List Nat} {i:Nat}:(⟨N,PT.ofList .leaf 0 L,D⟩:Tm).get i=(L[i]?).getD fW:=by
 unfold Tm.get
 simp only[PT.aF]
 cases L[i]? <;> rfl
@[go_sem] theorem eG {h:PT ak} {i:Nat} {b:Option ak}:(h.set i b).get i=b:=PT.dY _ _ _
@[go_sem] theorem aY {h:PT ak} {i j:Nat} {b:Option ak} (hij:i≠j):(h.set i b).get j=h.get j:=PT.bE _ _ hij
@[go_sem] theorem E2 {a b:Nat} (h:a≠b):Nat.beq a b=false:=by
 cases hb:Nat.beq a b with
 |false=>rfl
 |true=>exact absurd (Nat.eq_of_beq_eq_true hb) h
@[go_sem] theorem oB (a:Nat):Nat.beq a a=true:=by
 induction a with
 |zero=>rfl
 |succ n ih=>exact ih
@[go_sem] theorem hY {a b:Nat} (h:a≤b):Nat.ble a b=true:=Nat.ble_eq_true_of_le h
@[go_sem] theorem cM {a b:Nat} (h:b<a):Nat.ble a b=false:=by
 cases hb:Nat.ble a b with
 |false=>rfl
 |true=>exact absurd (Nat.le_of_ble_eq_true hb) (by omega)
@[go_sem] theorem I0 {a b:Nat} (h:a<b):Nat.blt a b=true:=Nat.ble_eq_true_of_le h
@[go_sem] theorem xB {a b:Nat} (h:b≤a):Nat.blt a b=false:=cM (by omega)
@[go_sem] theorem GG {k:IntKind} {i:Int} (h:0≤i):asNat (.int k i)=some i.toNat:=by
 obtain⟨n,rfl⟩:=Int.eq_ofNat_of_zero_le h
 rfl
@[go_sem] theorem GH {k:IntKind} {n:Nat}:asNat (.int k (n:Int))=some n:=rfl
@[go_sem] theorem GI (n:Nat):(n:Int).toNat=n:=rfl
@[go_sem] theorem I1 {n:Nat} {k:IntKind} {i:Int}:flat n (.int k i)=true:=by cases n<;>rfl
@[go_sem] theorem GJ {n:Nat} {b:Bool}:flat n (.bool b)=true:=by cases n<;>rfl
@[go_sem] theorem E3 {i:Nat}:aW (.tmp i)=true:=rfl
@[go_sem] theorem DH {i:Nat}:aW (.func i)=true:=rfl
@[go_sem] theorem E4 {k:IntKind} {i:Int}:aW (.const (.int k i))=true:=rfl
@[go_sem] theorem DI {b:Bool}:aW (.const (.bool b))=true:=rfl
@[go_sem] theorem Bd:aW (.const (.pointer none))=true:=rfl
@[go_sem] theorem yc {n c:Nat}:aW (.const (.slice none n c))=true:=rfl
@[go_sem] theorem E5 {s:ByteArray}:aW (.const (.string s))=true:=rfl
@[go_sem] theorem Be:aW (.const (.map none))=true:=rfl
@[go_sem] theorem zN:aW (.const .nilFunc)=true:=rfl
@[go_sem] theorem yf:aW (.const .nilIface)=true:=rfl
@[go_sem] theorem E6 {l:Array Value}:aW (.const (.agg l))=l.toList.all (flat 3):=rfl
@[go_sem] theorem Ci {ops:List Oper} {m:Tm} {d:Option Tmp} {op:Op} {t:TypeId} {pos:String} {af:Array Edge}:bM ops m ⟨d,op,t,pos,af,none⟩=true:=rfl
def qO (v:Option Value) (want:Bool):Bool:=match v with
 |some (.bool b)=>b==want
 | _=>false
def lP (ops:List Oper) (j:Nat):Option Nat:=match ops[j]? with
 |some o=>o.dst
 |none=>none
@[go_sem] theorem Cj {ops:List Oper} {m:Tm} {d:Option Tmp} {op:Op} {t:TypeId} {pos:String} {af:Array Edge} {j:Nat} {want:Bool}:
  bM ops m ⟨d,op,t,pos,af,some (j,want)⟩=qO ((lP ops j).map m.get) want:=by
 simp only[bM,eO,qO,lP]
 cases ops[j]? with
 |none=>rfl
 |some o=>
  simp only
  cases o.dst with
  |none=>rfl
  |some d=>simp only[Option.map_some];cases m.get d<;>rfl
@[go_sem] theorem DJ {b:Bool}:qO (some (.bool b)) true=b:=by cases b<;>rfl
@[go_sem] theorem Cm {b:Bool}:qO (some (.bool b)) false = !b:=by cases b<;>rfl
@[go_sem] theorem DK {o:Oper} {l:List Oper}:lP (o::l) 0=o.dst:=rfl
@[go_sem] theorem DL {o:Oper} {l:List Oper} {j:Nat}:lP (o::l) (j+1)=lP l j:=by simp[lP]
theorem Cn {z:Zx} {o:Oper} {ops r:List Oper} {K:List KF} {m:Tm} {h:PT ak} {n:Nat} {p:Prop} [Decidable p] (h1:p→gP z true o ops r K m h n) (h2: ¬ p→gP z false o ops r K m h n):gP z (decide p) o ops r K m h n:=by
 by_cases hp:p
 ·simpa [hp] using h1 hp
 ·simpa [hp] using h2 hp
theorem Co {z:Zx} {L:List (Nat×Nat)} {o:Oper} {ops r:List Oper} {K:List KF} {m:Tm} {h:PT ak} {n:Nat} {fs:List bD} {p:Prop} [Decidable p] (h1:p→gQ z L true o ops r K m h n fs) (h2: ¬ p→gQ z L false o ops r K m h n fs):gQ z L (decide p) o ops r K m h n fs:=by
 by_cases hp:p
 ·simpa [hp] using h1 hp
 ·simpa [hp] using h2 hp
theorem cr (L:List Value):∀ (k off:Nat),aP (PT.ofList .leaf 0 L) off k=cond (Nat.ble (off+k) L.length||Nat.beq k 0) (some ((L.drop off).take k)) none
 |0,off=>by simp[aP]
 |k+1,off=>by
  rw[aP,PT.aF,show Nat.succ off=off+1 from rfl,cr L k (off+1)]
  by_cases h1:off<L.length
  ·rw[List.getElem?_eq_getElem h1]
   simp only
   by_cases h2:off+(k+1)≤L.length
   ·rw[hY h2,hY (show off+1+k≤L.length by omega)]
    simp only[Bool.true_or,cond_true]
    rw[List.drop_eq_getElem_cons h1,List.take_succ_cons]
   ·rw[cM (show L.length<off+(k+1) by omega),cM (show L.length<off+1+k by omega)]
    have:Nat.beq k 0=false:=E2 (by omega)
    simp[this,show Nat.beq (k+1) 0=false from rfl]
  ·rw[List.getElem?_eq_none (by omega),cM (show L.length<off+(k+1) by omega)]
   simp[show Nat.beq (k+1) 0=false from rfl]
def oC:List Value→Nat→List Value→List Value
 |L,_,[]=>L
 |L,off,v::vs=>oC (L.set off v) (off+1) vs
theorem sS:∀ (vs L:List Value) (off:Nat),(oC L off vs).length=L.length
 | [],L,off=>rfl
 |v::vs,L,off=>by rw[oC,sS vs];simp
theorem gd:∀ (vs L:List Value) (off:Nat),bB (PT.ofList .leaf 0 L) off vs=cond ((Nat.ble (off+vs.length) L.length||vs.isEmpty)&&vs.all bh) (some (PT.ofList .leaf 0 (oC L off vs))) none
 | [],L,off=>by simp[bB,oC]
 |v::vs,L,off=>by
  rw[bB,PT.aF]
  by_cases h1:off<L.length
  ·rw[List.getElem?_eq_getElem h1]
   simp only
   cases hv:bh v with
   |false=>simp[hv]
   |true=>
    simp only[cond_true,List.all_cons,hv,Bool.true_and,List.isEmpty_cons,Bool.or_false,List.length_cons]
    rw[jH _ _ _ h1,show Nat.succ off=off+1 from rfl,gd vs (L.set off v) (off+1)]
    simp only[List.length_set]
    by_cases h2:off+(vs.length+1)≤L.length
    ·rw[hY h2,hY (show off+1+vs.length≤L.length by omega)];rfl
    ·rw[cM (show L.length<off+(vs.length+1) by omega),cM (show L.length<off+1+vs.length by omega)]
     cases vs with
     |nil=>simp at h2;omega
     |cons x xs=>rfl
  ·rw[List.getElem?_eq_none (by omega)]
   have:Nat.ble (off+(v::vs).length) L.length=false:=cM (by simp;omega)
   rw[this];rfl
@[go_sem] theorem I2 {L:List Value} {off:Nat}:oC L off []=L:=rfl
@[go_sem] theorem I3 {L:List Value} {off:Nat} {v:Value}:oC L off [v]=L.set off v:=rfl
@[go_sem] theorem GK {L vs:List Value} {off:Nat} {v:Value}:oC L off (v::vs)=oC (L.set off v) (off+1) vs:=rfl
def cI (P:Program) (t:TypeId):Option Nat:=(P.info? t).map (·.size)
def cN (P:Program) (t:TypeId):Option Bool:=(P.underlying t).map isAgg
def ej (P:Program) (t:TypeId):Option (List Value):=(zeroOf P t).map (·.cells.toList)
def cu (P:Program) (s:TypeId) (f:Nat):Option (Nat×Nat):=
 match P.underlying s with
 |some (.struct fs)=>match fs.toList[f]? with
  |some fd=>(P.info? fd.type).map fun i=>(fd.offset,i.size)
  |none=>none
 | _=>none
def cw (P:Program) (s:TypeId) (f:Nat):Option (Nat×Nat×Bool):=
 match P.underlying s with
 |some (.struct fs)=>match fs.toList[f]? with
  |some fd=>match P.info? fd.type,P.underlying fd.type with
   |some i,some d=>some (fd.offset,i.size,isAgg d)
   | _,_=>none
  |none=>none
 | _=>none
def vV (P:Program) (t:TypeId):Option (Option Nat×Nat):=
 match P.underlying t with
 |some (.array n e)=>(P.info? e).map fun i=>(some n,i.size)
 |some (.slice e)=>(P.info? e).map fun i=>(none,i.size)
 | _=>none
section ops
variable {P:Program} {ρ:Operand→Value} {d:Option Tmp} {ty:TypeId} {pos:String} {af:Array Edge} {g:Option (Nat×Bool)}
@[go_sem] theorem zO {e:TypeId}:(Op.alloc e).operands=#[]:=rfl
@[go_sem] theorem Bf {x:Operand}:(Op.move x).operands=#[x]:=rfl
@[go_sem] theorem yg {x:Operand}:(Op.assign x).operands=#[x]:=rfl
@[go_sem] theorem Cp {t:TypeId} {x:Operand}:(Op.box t x).operands=#[x]:=rfl
@[go_sem] theorem Bg {t:TypeId} {x:Operand}:(Op.load t x).operands=#[x]:=rfl
@[go_sem] theorem vW {x:Operand}:(Op.nilCheck x).operands=#[x]:=rfl
@[go_sem] theorem Bh {o:UnOp} {t:TypeId} {x:Operand}:(Op.unOp o t x).operands=#[x]:=rfl
@[go_sem] theorem xC {s t:TypeId} {x:Operand}:(Op.convert s t x).operands=#[x]:=rfl
@[go_sem] theorem qP {t:TypeId} {x:Operand}:(Op.makeInterface t x).operands=#[x]:=rfl
@[go_sem] theorem va {t:TypeId} {x:Operand} {f:Nat}:(Op.fieldAddr t x f).operands=#[x]:=rfl
@[go_sem] theorem zP {t:TypeId} {x:Operand} {f:Nat}:(Op.field t x f).operands=#[x]:=rfl
@[go_sem] theorem zQ {t:TypeId} {x:Operand}:(Op.range t x).operands=#[x]:=rfl
@[go_sem] theorem Bi {b:Bool} {x:Operand}:(Op.next x b).operands=#[x]:=rfl
@[go_sem] theorem zR {x:Operand}:(Op.entry x).operands=#[x]:=rfl
@[go_sem] theorem xD {x:Operand} {i:Nat}:(Op.extract x i).operands=#[x]:=rfl
@[go_sem] theorem Bj {a b c:Operand}:(Op.pick a b c).operands=#[a,b,c]:=rfl
@[go_sem] theorem zS {t:TypeId} {ps:Array (Nat×Operand)}:(Op.build t ps).operands=(ps.toList.map (·.2)).toArray:=rfl
@[go_sem] theorem tV {t:TypeId} {n:Nat} {ps:Array (Nat×Operand)}:(Op.buildSlice t n ps).operands=(ps.toList.map (·.2)).toArray:=rfl
@[go_sem] theorem zT {t:TypeId} {a v:Operand}:(Op.store t a v).operands=#[a,v]:=rfl
@[go_sem] theorem zU {o:BinOp} {t:TypeId} {a v:Operand} {t':TypeId}:(Op.binOp o t a v t').operands=#[a,v]:=rfl
@[go_sem] theorem ve {t:TypeId} {a v:Operand}:(Op.makeSlice t a v).operands=#[a,v]:=rfl
@[go_sem] theorem vf {t:TypeId} {a v:Operand}:(Op.indexAddr t a v).operands=#[a,v]:=rfl
@[go_sem] theorem zV {t:TypeId} {a v:Operand}:(Op.index t a v).operands=#[a,v]:=rfl
@[go_sem] theorem yh {t:TypeId} {a v:Operand} {b:Bool}:(Op.lookup t a v b).operands=#[a,v]:=rfl
@[go_sem] theorem vX {f:Fn} {a v:Array Operand}:(Op.makeFunc f a v).operands=a++v:=rfl
@[go_sem] theorem xE {t:TypeId} {r:Option Operand}:(Op.makeMap t r).operands=r.toArray:=rfl
@[go_sem] theorem zW {t:TypeId} {x:Operand} {l h m:Option Operand}:(Op.slice t x l h m).operands=#[x]++l.toArray++h.toArray++m.toArray:=rfl
@[go_sem] theorem vg {t:TypeId} {a b c:Operand}:(Op.mapUpdate t a b c).operands=#[a,b,c]:=rfl
@[go_sem] theorem yj {t:TypeId} {a b c:Operand}:(Op.insert t a b c).operands=#[a,b,c]:=rfl
@[go_sem] theorem Bk {f:Operand} {as:Array Operand} {ts:Array TypeId}:(Op.call ⟨.value f,as,ts⟩).operands=(⟨.value f,as,ts⟩:Call).operands:=rfl
@[go_sem] theorem xF {b:Builtin} {as:Array Operand} {ts:Array TypeId}:(Op.call ⟨.builtin b,as,ts⟩).operands=(⟨.builtin b,as,ts⟩:Call).operands:=rfl
@[go_sem] theorem I4 {x:Operand}:gO P ρ ⟨d,.move x,ty,pos,af,g⟩ = .pure (.value (ρ x)):=rfl
@[go_sem] theorem E7 {x:Operand}:gO P ρ ⟨d,.assign x,ty,pos,af,g⟩ = .pure (.value (ρ x)):=rfl
def DM (c a b:Value):AP aC:=match c with
 | .bool t => .pure (.value (cond t a b))
 | _ => .fail "pick"
@[go_sem] theorem I5 {c a b:Operand}:gO P ρ ⟨d,.pick c a b,ty,pos,af,g⟩=DM (ρ c) (ρ a) (ρ b):=rfl
@[go_sem] theorem E8 {t:Bool} {a b:Value}:DM (.bool t) a b = .pure (.value (cond t a b)):=rfl
def mT (w:String) (o:Option Value):AP aC:=match o with
 |some v => .pure (.value v)
 |none => .fail w
@[go_sem] theorem GL {w:String} {v:Value}:mT w (some v) = .pure (.value v):=rfl
@[go_sem] theorem bind_pure {α β:Type} {a:α} {f:α→AP β}:(AP.pure a).bind f=f a:=rfl
@[go_sem] theorem zX {α β:Type} {id:Nat} {k:ak→AP α} {f:α→AP β}:(AP.get id k).bind f = .get id fun b=>(k b).bind f:=rfl
@[go_sem] theorem I7 {α β:Type} {id:Nat} {b:ak} {k:AP α} {f:α→AP β}:(AP.set id b k).bind f = .set id b (k.bind f):=rfl
@[go_sem] theorem GM {α β:Type} {id:Nat} {k:AP α} {f:α→AP β}:(AP.kill id k).bind f = .kill id (k.bind f):=rfl
@[go_sem] theorem I8 {α β:Type} {b:ak} {k:Nat→AP α} {f:α→AP β}:(AP.new b k).bind f = .new b fun i=>(k i).bind f:=rfl
def I9 (off:Nat):ak→AP aC
 | .cells c _=>mT "load" (c.get off)
 | _ => .fail "load"
def I_ (off s:Nat):ak→AP aC
 | .cells c _=>mT "load" ((aP c off s).map fun l => .agg ⟨l⟩)
 | _ => .fail "load"
def vY (g:Option Bool) (s:Option Nat) (x:Value):AP aC:=match x,s,g with
 | .pointer (some a),some s,some g => .get a.block (cond g (I_ a.off s) (I9 a.off))
 | _,_,_ => .fail "load"
@[go_sem] theorem Ja {t:TypeId} {a:Operand}:gO P ρ ⟨d,.load t a,ty,pos,af,g⟩=vY (cN P t) (cI P t) (ρ a):=by
 show (dN P t (ρ a)).bind _=_
 unfold dN vY cN cI
 generalize ρ a=x
 cases x with
 |pointer p=>
  cases p with
  |none=>rfl
  |some a=>
   cases P.info? t with
   |none=>rfl
   |some i=>
    cases P.underlying t with
    |none=>rfl
    |some u=>
     simp only[Option.map_some,AP.bind]
     congr 1
     funext b
     cases isAgg u<;>cases b<;>simp only[cond_true,cond_false,I9,I_]<;>first |rfl |skip
     ·rename_i c ro
      cases c.get a.off<;>rfl
     ·rename_i c ro
      cases aP c a.off i.size<;>rfl
 | _=>rfl
@[go_sem] theorem KO {s b off:Nat} {sp:Option Nat}:vY (some false) (some s) (.pointer (some ⟨b,off,sp⟩)) = .get b (I9 off):=rfl
@[go_sem] theorem KP {s b off:Nat} {sp:Option Nat}:vY (some true) (some s) (.pointer (some ⟨b,off,sp⟩)) = .get b (I_ off s):=rfl
@[go_sem] theorem KQ {L:List Value} {ro:Bool} {off:Nat}:I9 off (.cells (PT.ofList .leaf 0 L) ro)=mT "load" L[off]? := by simp[I9,PT.aF]
@[go_sem] theorem KR {L:List Value} {ro:Bool} {off s:Nat}:I_ off s (.cells (PT.ofList .leaf 0 L) ro)=cond (Nat.ble (off+s) L.length||Nat.beq s 0) (.pure (.value (.agg ⟨(L.drop off).take s⟩))) (.fail "load"):=by
 simp only[I_,cr]
 cases (Nat.ble (off+s) L.length||Nat.beq s 0)<;>rfl
def Jb (b off:Nat) (vs:List Value):ak→AP aC
 | .cells c false=>match bB c off vs with
  |some c' => .set b (.cells c' false) (.pure .skip)
  |none => .fail "store"
 | _ => .fail "store"
def vh (s:Option Nat) (x:Value) (vs:List Value):AP aC:=match x,s with
 | .pointer (some a),some s=>cond (Nat.beq vs.length s) (.get a.block (Jb a.block a.off vs)) (.fail "store")
 | _,_ => .fail "store"
@[go_sem] theorem GN {t:TypeId} {a x:Operand}:gO P ρ ⟨d,.store t a x,ty,pos,af,g⟩=vh (cI P t) (ρ a) (ρ x).cells.toList:=by
 show (nB P t (ρ a) (ρ x)).bind _=_
 unfold nB vh cI
 generalize ρ a=y
 cases y with
 |pointer p=>
  cases p with
  |none=>rfl
  |some a=>
   cases P.info? t with
   |none=>rfl
   |some i=>
    simp only[Option.map_some]
    cases Nat.beq (ρ x).cells.toList.length i.size with
    |false=>rfl
    |true=>
     simp only[cond_true,AP.bind]
     congr 1
     funext b
     cases b with
     |cells c ro=>cases ro with
      |true=>rfl
      |false=>simp only[Jb];cases bB c a.off (ρ x).cells.toList<;>rfl
     | _=>rfl
 | _=>rfl
@[go_sem] theorem E9 {s b off:Nat} {sp:Option Nat} {vs:List Value}:vh (some s) (.pointer (some ⟨b,off,sp⟩)) vs=cond (Nat.beq vs.length s) (.get b (Jb b off vs)) (.fail "store"):=rfl
@[go_sem] theorem KS {L vs:List Value} {b off:Nat}:Jb b off vs (.cells (PT.ofList .leaf 0 L) false)=cond ((Nat.ble (off+vs.length) L.length||vs.isEmpty)&&vs.all bh) (.set b (.cells (PT.ofList .leaf 0 (oC L off vs)) false) (.pure .skip)) (.fail "store"):=by
 simp only[Jb,gd]
 cases ((Nat.ble (off+vs.length) L.length||vs.isEmpty)&&vs.all bh)<;>rfl
@[go_sem] theorem GQ {k:IntKind} {n:Int}:(Value.int k n).cells=#[.int k n]:=rfl
@[go_sem] theorem E_ {b:Bool}:(Value.bool b).cells=#[.bool b]:=rfl
@[go_sem] theorem GR {a:Option Addr}:(Value.pointer a).cells=#[.pointer a]:=rfl
@[go_sem] theorem DN {a:Option Addr} {n c:Nat}:(Value.slice a n c).cells=#[.slice a n c]:=rfl
@[go_sem] theorem GU {a:Option Nat}:(Value.map a).cells=#[.map a]:=rfl
@[go_sem] theorem Cq {s:ByteArray}:(Value.string s).cells=#[.string s]:=rfl
@[go_sem] theorem Fa {f:Fn} {x y:Array Value}:(Value.func f x y).cells=#[.func f x y]:=rfl
@[go_sem] theorem Bl:Value.nilFunc.cells=#[.nilFunc]:=rfl
@[go_sem] theorem DP {t:TypeId} {v:Value}:(Value.iface t v).cells=#[.iface t v]:=rfl
@[go_sem] theorem zY:Value.nilIface.cells=#[.nilIface]:=rfl
@[go_sem] theorem GV {l:Array Value}:(Value.agg l).cells=l:=rfl
@[go_sem] theorem KT {k:IntKind} {n:Int}:bh (Value.int k n)=true:=rfl
@[go_sem] theorem Jc {b:Bool}:bh (Value.bool b)=true:=rfl
@[go_sem] theorem KU {a:Option Addr}:bh (Value.pointer a)=true:=rfl
@[go_sem] theorem GX {a:Option Addr} {n c:Nat}:bh (Value.slice a n c)=true:=rfl
@[go_sem] theorem KW {a:Option Nat}:bh (Value.map a)=true:=rfl
@[go_sem] theorem Fb {s:ByteArray}:bh (Value.string s)=true:=rfl
@[go_sem] theorem Jd {f:Fn} {x y:Array Value}:bh (Value.func f x y)=true:=rfl
@[go_sem] theorem DQ:bh Value.nilFunc=true:=rfl
@[go_sem] theorem GY {t:TypeId} {v:Value}:bh (Value.iface t v)=true:=rfl
@[go_sem] theorem Cr:bh Value.nilIface=true:=rfl
@[go_sem] theorem KX {t:TypeId} {x:Operand}:gO P ρ ⟨d,.box t x,ty,pos,af,g⟩ = .new (.cells (PT.ofList .leaf 0 (ρ x).cells.toList) false) fun id => .pure (.value (.pointer (some ⟨id,0,none⟩))):=rfl
def zZ (z:Option (List Value)):AP aC:=match z with
 |some l => .new (.cells (PT.ofList .leaf 0 l) false) fun id => .pure (.value (.pointer (some ⟨id,0,none⟩)))
 |none => .fail "alloc"
@[go_sem] theorem GZ {t:TypeId}:gO P ρ ⟨d,.alloc t,ty,pos,af,g⟩=zZ (ej P t):=by
 show (nC P t).bind _=_
 unfold nC ej
 cases zeroOf P t<;>rfl
@[go_sem] theorem DR {l:List Value}:zZ (some l) = .new (.cells (PT.ofList .leaf 0 l) false) fun id => .pure (.value (.pointer (some ⟨id,0,none⟩))):=rfl
def Oz (f:Option (Nat×Nat)) (x:Value):AP aC:=match x,f with
 | .pointer (some a),some (o,s)=>cond (Nat.beq s 0) (.fail "fieldAddr") (.pure (.value (.pointer (some (gJ a o)))))
 | _,_ => .fail "fieldAddr"
@[go_sem] theorem Bm {t:TypeId} {x:Operand} {f:Nat}:gO P ρ ⟨d,.fieldAddr t x f,ty,pos,af,g⟩=Oz (cu P t f) (ρ x):=by
 show (fS P t (ρ x) f).bind _=_
 unfold fS Oz cu
 generalize ρ x=y
 cases y with
 |pointer p=>
  cases p with
  |none=>rfl
  |some a=>
   cases P.underlying t with
   |none=>rfl
   |some u=>
    cases u with
    |struct fs=>
     simp only
     cases fs.toList[f]? with
     |none=>rfl
     |some fd=>
      simp only
      cases P.info? fd.type with
      |none=>rfl
      |some i=>simp only[Option.map_some];cases Nat.beq i.size 0<;>rfl
    | _=>rfl
 | _=>rfl
@[go_sem] theorem KY {b off:Nat} {sp:Option Nat} {o s:Nat}:Oz (some (o,s)) (.pointer (some ⟨b,off,sp⟩))=cond (Nat.beq s 0) (.fail "fieldAddr") (.pure (.value (.pointer (some ⟨b,off+o,none⟩)))):=rfl
def j6 (cs:List Value) (off s:Nat) (agg:Bool):Option Value:=cond agg (some (.agg ⟨(cs.drop off).take s⟩)) cs[off]?
@[go_sem] theorem Fc {cs:List Value} {off s:Nat}:j6 cs off s true=some (.agg ⟨(cs.drop off).take s⟩):=rfl
@[go_sem] theorem DS {cs:List Value} {off s:Nat}:j6 cs off s false=cs[off]? := rfl
def OA (f:Option (Nat×Nat×Bool)) (x:Value):AP aC:=match x,f with
 | .agg cs,some (o,s,g)=>mT "field" (j6 cs.toList o s g)
 | _,_ => .fail "field"
theorem sU {t:TypeId} {cs:List Value} {off:Nat}:gu P t cs off=match P.info? t,P.underlying t with |some i,some u=>j6 cs off i.size (isAgg u) | _,_=>none:=by
 unfold gu
 cases P.info? t with
 |none=>rfl
 |some i=>cases P.underlying t with
  |none=>rfl
  |some u=>simp only[j6]
@[go_sem] theorem G0 {t:TypeId} {x:Operand} {f:Nat}:gO P ρ ⟨d,.field t x f,ty,pos,af,g⟩=OA (cw P t f) (ρ x):=by
 show (nF P t (ρ x) f).bind _=_
 unfold nF OA cw
 generalize ρ x=y
 cases y with
 |agg cs=>
  cases P.underlying t with
  |none=>rfl
  |some u=>
   cases u with
   |struct fs=>
    simp only
    cases fs.toList[f]? with
    |none=>rfl
    |some fd=>
     simp only[sU]
     cases P.info? fd.type with
     |none=>rfl
     |some i=>
      cases P.underlying fd.type with
      |none=>rfl
      |some u=>
       simp only[AP.opt]
       cases j6 cs.toList fd.offset i.size (isAgg u)<;>rfl
   | _=>rfl
 | _=>rfl
@[go_sem] theorem KZ {cs:Array Value} {o s:Nat} {b:Bool}:OA (some (o,s,b)) (.agg cs)=mT "field" (j6 cs.toList o s b):=rfl
def K1 (k:Option (Option Nat×Nat)) (x:Value) (i:Option Nat):AP aC:=match k,x,i with
 |some (some len,s),.pointer (some a),some n=>cond (Nat.blt n len) (.pure (.value (.pointer (some (gJ a (n*s)))))) (.fail "indexAddr")
 |some (none,s),.slice (some a) len _,some n=>cond (Nat.blt n len) (.pure (.value (.pointer (some (gJ a (n*s)))))) (.fail "indexAddr")
 | _,_,_ => .fail "indexAddr"
@[go_sem] theorem Bn {t:TypeId} {x i:Operand}:gO P ρ ⟨d,.indexAddr t x i,ty,pos,af,g⟩=K1 (vV P t) (ρ x) (asNat (ρ i)):=by
 show (fT P t (ρ x) (ρ i)).bind _=_
 unfold fT K1 vV
 generalize ρ x=y
 generalize asNat (ρ i)=j
 cases hu:P.underlying t with
 |none=>rfl
 |some u=>
  cases u with
  |array len e=>
   cases y with
   |pointer p=>cases p with
    |none=>cases j<;>dsimp only<;>cases P.info? e<;>rfl
    |some a=>cases j with
     |none=>dsimp only;cases P.info? e<;>rfl
     |some n=>
      dsimp only
      cases P.info? e with
      |none=>rfl
      |some i=>simp only[Option.map_some];cases Nat.blt n len<;>rfl
   | _=>dsimp only;cases P.info? e<;>rfl
  |slice e=>
   cases y with
   |slice p len c=>cases p with
    |none=>cases j<;>dsimp only<;>cases P.info? e<;>rfl
    |some a=>cases j with
     |none=>dsimp only;cases P.info? e<;>rfl
     |some n=>
      dsimp only
      cases P.info? e with
      |none=>rfl
      |some i=>simp only[Option.map_some];cases Nat.blt n len<;>rfl
   | _=>dsimp only;cases P.info? e<;>rfl
  | _=>rfl
@[go_sem] theorem K7 {len s b off n:Nat} {sp:Option Nat}:K1 (some (some len,s)) (.pointer (some ⟨b,off,sp⟩)) (some n)=cond (Nat.blt n len) (.pure (.value (.pointer (some ⟨b,off+n*s,none⟩)))) (.fail "indexAddr"):=rfl
@[go_sem] theorem G1 {len c s b off n:Nat} {sp:Option Nat}:K1 (some (none,s)) (.slice (some ⟨b,off,sp⟩) len c) (some n)=cond (Nat.blt n len) (.pure (.value (.pointer (some ⟨b,off+n*s,none⟩)))) (.fail "indexAddr"):=rfl
def K9 (k:Option (Nat×Nat×Bool)) (x:Value) (i:Option Nat):AP aC:=match k,x,i with
 |some (len,s,b),.agg cs,some n=>cond (Nat.blt n len) (mT "index" (j6 cs.toList (n*s) s b)) (.fail "index")
 |none,.string s,some n=>mT "index" (s.data.toList[n]?.map fun b => .int .u8 b.toNat)
 | _,_,_ => .fail "index"
def Je (P:Program) (t:TypeId):Option (Nat×Nat×Bool):=
 match P.underlying t with
 |some (.array n e)=>match P.info? e,P.underlying e with
  |some i,some u=>some (n,i.size,isAgg u)
  | _,_=>none
 | _=>none
theorem vi {t:TypeId} {x i:Operand} {cs:Array Value} (hx:ρ x = .agg cs):gO P ρ ⟨d,.index t x i,ty,pos,af,g⟩=K9 (Je P t) (.agg cs) (asNat (ρ i)):=by
 show (lz P t (ρ x) (ρ i)).bind _=_
 rw[hx]
 unfold lz K9 Je
 generalize asNat (ρ i)=j
 cases hu:P.underlying t with
 |none=>rfl
 |some u=>
  cases u with
  |array len e=>
   cases j with
   |none=>simp only;cases P.info? e with
    |none=>rfl
    |some i=>cases P.underlying e<;>rfl
   |some n=>
    simp only[sU]
    cases P.info? e with
    |none=>rfl
    |some i=>
     simp only
     cases P.underlying e with
     |none=>cases Nat.blt n len<;>rfl
     |some u=>simp only;cases Nat.blt n len with
      |false=>rfl
      |true=>simp only[cond_true];cases j6 cs.toList (n*i.size) i.size (isAgg u)<;>rfl
  |string=>cases j<;>rfl
  | _=>rfl
def z6 (P:Program) (t:TypeId) (x i:Value):AP aC:=(lz P t x i).bind fun v => .pure (.value v)
@[go_sem] theorem G2 {t:TypeId} {x i:Operand}:gO P ρ ⟨d,.index t x i,ty,pos,af,g⟩=z6 P t (ρ x) (ρ i):=rfl
@[go_sem] theorem Fe {t:TypeId} {i:Value} {cs:Array Value}:z6 P t (.agg cs) i=K9 (Je P t) (.agg cs) (asNat i):=
 vi (ρ:=fun o=>match o with | .tmp 0 => .agg cs | _=>i) (x := .tmp 0) (i := .tmp 1) (d:=none) (ty:=0) (pos := "") (af:=#[]) (g:=none) rfl
@[go_sem] theorem K_ {len s n:Nat} {b:Bool} {cs:Array Value}:K9 (some (len,s,b)) (.agg cs) (some n)=cond (Nat.blt n len) (mT "index" (j6 cs.toList (n*s) s b)) (.fail "index"):=rfl
def cg (P:Program) (o:BinOp) (t:TypeId) (cx cy:Bool) (x y:Value):AP aC:=(dR P o t cx cy x y).bind fun v => .pure (.value v)
@[go_sem] theorem G3 {o:BinOp} {t t':TypeId} {x y:Operand}:gO P ρ ⟨d,.binOp o t x y t',ty,pos,af,g⟩=cg P o t (isConst x) (isConst y) (ρ x) (ρ y):=rfl
section
variable {t:TypeId} {cx cy:Bool} {k k':IntKind} {a b:Int}
@[go_sem] theorem Jf:cg P .add t cx cy (.int k a) (.int k b) = .pure (.value (.int k (k.wrap (a+b)))):=by show AP.bind (ite (k=k) _ _) _=_;rw[if_pos rfl];rfl
@[go_sem] theorem Jg:cg P .sub t cx cy (.int k a) (.int k b) = .pure (.value (.int k (k.wrap (a-b)))):=by show AP.bind (ite (k=k) _ _) _=_;rw[if_pos rfl];rfl
@[go_sem] theorem Jh:cg P .mul t cx cy (.int k a) (.int k b) = .pure (.value (.int k (k.wrap (a*b)))):=by show AP.bind (ite (k=k) _ _) _=_;rw[if_pos rfl];rfl
@[go_sem] theorem Ji:cg P .quo t cx cy (.int k a) (.int k b)=cond (decide (b=0)) (.fail "intOp") (.pure (.value (.int k (k.wrap (a.tdiv b))))):=by
 show AP.bind (ite (k=k) _ _) _=_
 rw[if_pos rfl]
 by_cases h:b=0<;>simp[intOp,h,AP.opt,AP.bind]
@[go_sem] theorem Jj:cg P .rem t cx cy (.int k a) (.int k b)=cond (decide (b=0)) (.fail "intOp") (.pure (.value (.int k (a.tmod b)))):=by
 show AP.bind (ite (k=k) _ _) _=_
 rw[if_pos rfl]
 by_cases h:b=0<;>simp[intOp,h,AP.opt,AP.bind]
@[go_sem] theorem Jk:cg P .and t cx cy (.int k a) (.int k b) = .pure (.value (.int k (k.wrap (BitVec.ofInt k.bits a&&&BitVec.ofInt k.bits b).toNat))):=by show AP.bind (ite (k=k) _ _) _=_;rw[if_pos rfl];rfl
@[go_sem] theorem La:cg P .or t cx cy (.int k a) (.int k b) = .pure (.value (.int k (k.wrap (BitVec.ofInt k.bits a|||BitVec.ofInt k.bits b).toNat))):=by show AP.bind (ite (k=k) _ _) _=_;rw[if_pos rfl];rfl
@[go_sem] theorem Jl:cg P .eql t cx cy (.int k a) (.int k b) = .pure (.value (.bool (decide (a=b)))):=by show AP.bind (ite (k=k) _ _) _=_;rw[if_pos rfl];rfl
@[go_sem] theorem Jm:cg P .neq t cx cy (.int k a) (.int k b) = .pure (.value (.bool (decide (a≠b)))):=by show AP.bind (ite (k=k) _ _) _=_;rw[if_pos rfl];exact congrArg (fun z=>AP.pure (aC.value (Value.bool z))) (by by_cases h:a=b<;>simp[h])
@[go_sem] theorem Jn:cg P .lss t cx cy (.int k a) (.int k b) = .pure (.value (.bool (decide (a<b)))):=by show AP.bind (ite (k=k) _ _) _=_;rw[if_pos rfl];rfl
@[go_sem] theorem Jo:cg P .leq t cx cy (.int k a) (.int k b) = .pure (.value (.bool (decide (a≤b)))):=by show AP.bind (ite (k=k) _ _) _=_;rw[if_pos rfl];rfl
@[go_sem] theorem Jp:cg P .gtr t cx cy (.int k a) (.int k b) = .pure (.value (.bool (decide (b<a)))):=by show AP.bind (ite (k=k) _ _) _=_;rw[if_pos rfl];rfl
@[go_sem] theorem Jq:cg P .geq t cx cy (.int k a) (.int k b) = .pure (.value (.bool (decide (b≤a)))):=by show AP.bind (ite (k=k) _ _) _=_;rw[if_pos rfl];rfl
def z7 (u:Option TypeDesc) (neg:Bool) (x:Option Addr):AP aC:=match u with
 |some (.pointer _) => .pure (.value (.bool (x.isNone^^neg)))
 | _ => .fail "equal"
theorem oD {D:Nat} {x:Option Addr}:bw P (D+1) t (.pointer x) (.pointer none)=match P.underlying t with |some (.pointer _) => .pure x.isNone | _ => .fail "equal":=by
 unfold bw
 cases P.underlying t with
 |none=>cases x<;>rfl
 |some u=>cases u<;>cases x<;>rfl
@[go_sem] theorem DT {x:Option Addr}:cg P .eql t cx cy (.pointer x) (.pointer none)=z7 (P.underlying t) false x:=by
 have:cg P .eql t cx cy (.pointer x) (.pointer none)=AP.bind ((bw P (11+1) t (.pointer x) (.pointer none)).bind fun b => .pure (.bool b)) fun v => .pure (.value v):=by
  simp only[cg,dR,bC,cond_true]
 rw[this,oD];unfold z7
 cases P.underlying t with
 |none=>rfl
 |some u=>cases u<;>first |rfl | (cases x<;>rfl)
@[go_sem] theorem DU {x:Option Addr}:cg P .neq t cx cy (.pointer x) (.pointer none)=z7 (P.underlying t) true x:=by
 have:cg P .neq t cx cy (.pointer x) (.pointer none)=AP.bind ((bw P (11+1) t (.pointer x) (.pointer none)).bind fun b => .pure (.bool !b)) fun v => .pure (.value v):=by
  simp only[cg,dR,bC,cond_true]
 rw[this,oD];unfold z7
 cases P.underlying t with
 |none=>rfl
 |some u=>cases u<;>first |rfl | (cases x<;>rfl)
@[go_sem] theorem Jr {e:TypeId} {neg:Bool} {x:Option Addr}:z7 (some (.pointer e)) neg x = .pure (.value (.bool (x.isNone^^neg))):=rfl
end
def Lc (o:UnOp) (x:Value):AP aC:=mT "unOp" (lu o x)
@[go_sem] theorem Js {o:UnOp} {t:TypeId} {x:Operand}:gO P ρ ⟨d,.unOp o t x,ty,pos,af,g⟩=Lc o (ρ x):=by
 show (AP.opt "unOp" (lu o (ρ x)) AP.pure).bind _=_
 unfold Lc
 cases lu o (ρ x)<;>rfl
@[go_sem] theorem Ld {k:IntKind} {a:Int}:Lc .neg (.int k a) = .pure (.value (.int k (k.wrap (0-a)))):=rfl
@[go_sem] theorem Le {b:Bool}:Lc .not (.bool b) = .pure (.value (.bool !b)):=rfl
def OC (s u:Option TypeDesc) (x:Value):AP aC:=match s,u,x with
 |some _,some (.int k),.int _ n => .pure (.value (.int k (k.wrap n)))
 |some _,some .string,.string s => .pure (.value (.string s))
 | _,_,_ => .fail "convert"
@[go_sem] theorem DV {s t:TypeId} {x:Operand}:gO P ρ ⟨d,.convert s t x,ty,pos,af,g⟩=OC (P.underlying s) (P.underlying t) (ρ x):=by
 show (iY P s t (ρ x)).bind _=_
 unfold iY OC
 generalize ρ x=y
 cases P.underlying s with
 |none=>rfl
 |some a=>cases P.underlying t with
  |none=>rfl
  |some u=>cases u<;>cases y<;>rfl
@[go_sem] theorem Lf {u:TypeDesc} {k k':IntKind} {n:Int}:OC (some u) (some (.int k)) (.int k' n) = .pure (.value (.int k (k.wrap n))):=rfl
def RY (x:Value):AP aC:=(jD x).bind fun v => .pure (.value v)
@[go_sem] theorem Ct {x:Operand}:gO P ρ ⟨d,.nilCheck x,ty,pos,af,g⟩=RY (ρ x):=rfl
@[go_sem] theorem Lg {a:Addr}:RY (.pointer (some a)) = .pure (.value (.pointer (some a))):=rfl
def OD (x:Value) (i:Nat):AP aC:=match x with
 | .tuple vs=>mT "extract" (vs.toList[i]?)
 | _ => .fail "extract"
@[go_sem] theorem DW {x:Operand} {i:Nat}:gO P ρ ⟨d,.extract x i,ty,pos,af,g⟩=OD (ρ x) i:=by
 show (i_ (ρ x) i).bind _=_
 unfold i_ OD
 cases ρ x<;>first |rfl |skip
 rename_i vs
 simp only[AP.opt]
 cases vs.toList[i]? <;> rfl
@[go_sem] theorem G4 {vs:Array Value} {i:Nat}:OD (.tuple vs) i=mT "extract" (vs.toList[i]?):=rfl
@[go_sem] theorem Cu {fn:Fn} {first captured:Array Operand}:gO P ρ ⟨d,.makeFunc fn first captured,ty,pos,af,g⟩=cond (jE fn) (.pure (.value (.func fn ⟨first.toList.map ρ⟩ ⟨captured.toList.map ρ⟩))) (.fail "makeFunc"):=rfl
@[go_sem] theorem Cv {f:FuncId}:jE (.func f)=true:=rfl
def DX (P:Program) (f:Value) (args:List Value):AP aC:=match f with
 | .func fn first captured=>fE P fn captured.toList (first.toList++args)
 | _ => .fail "call nil function"
@[go_sem] theorem Jt {f:Operand} {as:Array Operand} {ts:Array TypeId}:gO P ρ ⟨d,.call ⟨.value f,as,ts⟩,ty,pos,af,g⟩=DX P (ρ f) (as.toList.map ρ):=rfl
@[go_sem] theorem Ff {f:FuncId} {first captured:Array Value} {args:List Value}:DX P (.func (.func f) first captured) args=aj P f ((first.toList++args)++captured.toList):=rfl
def z8 (P:Program) (b:Builtin) (ts:List TypeId) (args:List Value):AP aC:=(jf P b ts args).bind fun v => .pure (.value v)
@[go_sem] theorem DY {b:Builtin} {as:Array Operand} {ts:Array TypeId}:gO P ρ ⟨d,.call ⟨.builtin b,as,ts⟩,ty,pos,af,g⟩=z8 P b ts.toList (as.toList.map ρ):=rfl
def Ju (P:Program) (u:Option TypeDesc) (x:Value):AP aC:=(match u,x with
    |some .string,.string s=>(.pure (.int .i64 s.size):AP Value)
    |some (.array n _),_ => .pure (.int .i64 n)
    |some (.pointer arr),_=>match P.underlying arr with
     |some (.array n _) => .pure (.int .i64 n)
     | _ => .fail "len"
    |some (.slice _),.slice _ n _ => .pure (.int .i64 n)
    |some (.map _ _),x=>(kH x).bind fun es => .pure (.int .i64 es.length)
    | _,_ => .fail "len").bind fun v => .pure (.value v)
@[go_sem] theorem Fg {e:TypeId} {a:Option Addr} {n c:Nat}:Ju P (some (.slice e)) (.slice a n c) = .pure (.value (.int .i64 n)):=rfl
@[go_sem] theorem Jv {t:TypeId} {ts:List TypeId} {a:Option Addr} {n c:Nat}:z8 P .len (t::ts) [.slice a n c]=Ju P (P.underlying t) (.slice a n c):=rfl
end ops
end Go.Am
