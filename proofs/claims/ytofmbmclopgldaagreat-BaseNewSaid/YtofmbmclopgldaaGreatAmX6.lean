/-
  The abstract machine, for proofs with variables: what each operation does, in a form that simp works out.
-/
import Derived.Test.YtofmbmclopgldaaGreatAmX5
import Derived.Attr
set_option linter.unusedSimpArgs false
set_option linter.unusedVariables false
namespace Go.Am
attribute [go_sem] Ju Dc Dd Fh De Fi Jv Fk AE
 Nv yg AB Fj vW uo Jw vX yh Nw
 sL pJ Jy Fl Fm Dg uN AF Fo Di Fp vY sM Jz Fq Ft JA Dj Fu
 JE FD FE Dl uQ AH FF Dm FG JF Dn JG FI Dp JH Dr Ds
 Nz NA
@[congr] theorem Qr {z:Zx} {c:Code} {K:List KF} {m:Tm} {h:PT ak} {n:Nat}:fJ z c K m h n=fJ z c K m h n:=rfl
@[congr] theorem Qs {z:Zx} {ops r:List Oper} {K:List KF} {m:Tm} {h:PT ak} {n:Nat}:Iw z ops r K m h n=Iw z ops r K m h n:=rfl
@[congr] theorem SP {z:Zx} {e e':aV} {K:List KF} {m:Tm} {h:PT ak} {n:Nat} (he:e=e'):Rs z K e m h n=Rs z K e' m h n:=by rw[he]
@[congr] theorem Qt {z:Zx} {v v':Value} {a b:Code} {K:List KF} {m:Tm} {h:PT ak} {n:Nat} (hv:v=v'):yj z v a b K m h n=yj z v' a b K m h n:=by rw[hv]
@[congr] theorem Qu {z:Zx} {w w':Bool} {o:Oper} {ops r:List Oper} {K:List KF} {m:Tm} {h:PT ak} {n:Nat} (hw:w=w'):jI z w o ops r K m h n=jI z w' o ops r K m h n:=by rw[hw]
@[congr] theorem Qv {z:Zx} {p p':AP aD} {d:Option Nat} {ops r:List Oper} {K:List KF} {m:Tm} {h:PT ak} {n:Nat} (hp:p=p'):jE z p d ops r K m h n=jE z p' d ops r K m h n:=by rw[hp]
@[congr] theorem Qw {z:Zx} {b b':Option ak} {f:ak→AP aD} {d:Option Nat} {ops r:List Oper} {K:List KF} {m:Tm} {h:PT ak} {n:Nat} (hb:b=b'):SI z b f d ops r K m h n=SI z b' f d ops r K m h n:=by rw[hb]
@[congr] theorem Qx {z:Zx} {o o':Option ak} {id:Nat} {b:Option ak} {p:AP aD} {d:Option Nat} {ops r:List Oper} {K:List KF} {m:Tm} {h:PT ak} {n:Nat} (ho:o=o'):NB z o id b p d ops r K m h n=NB z o' id b p d ops r K m h n:=by rw[ho]
@[congr] theorem Qy {z:Zx} {s s':Option (AP Value)} {f:FuncId} {args:List Value} {d:Option Nat} {ops r:List Oper} {K:List KF} {m:Tm} {h:PT ak} {n:Nat} (hs:s=s'):NC z s f args d ops r K m h n=NC z s' f args d ops r K m h n:=by rw[hs]
@[congr] theorem Qz {z:Zx} {L:List (Nat×Nat)} {ops r:List Oper} {K:List KF} {m:Tm} {h:PT ak} {n:Nat} {fs:List bD}:FC z L ops r K m h n fs=FC z L ops r K m h n fs:=rfl
@[congr] theorem QA {z:Zx} {L:List (Nat×Nat)} {w w':Bool} {o:Oper} {ops r:List Oper} {K:List KF} {m:Tm} {h:PT ak} {n:Nat} {fs:List bD} (hw:w=w'):jJ z L w o ops r K m h n fs=jJ z L w' o ops r K m h n fs:=by rw[hw]
@[congr] theorem QB {z:Zx} {L:List (Nat×Nat)} {p p':AP aD} {d:Option Nat} {ops r:List Oper} {K:List KF} {m:Tm} {h:PT ak} {n lo:Nat} {rd wr:List Nat} {fs:List bD} (hp:p=p'):lS z L p d ops r K m h n lo rd wr fs=lS z L p' d ops r K m h n lo rd wr fs:=by rw[hp]
@[congr] theorem NJ {z:Zx} {L:List (Nat×Nat)} {b b':Option ak} {f:ak→AP aD} {d:Option Nat} {ops r:List Oper} {K:List KF} {m:Tm} {h:PT ak} {n lo:Nat} {rd wr:List Nat} {fs:List bD} (hb:b=b'):FH z L b f d ops r K m h n lo rd wr fs=FH z L b' f d ops r K m h n lo rd wr fs:=by rw[hb]
@[congr] theorem NK {z:Zx} {L:List (Nat×Nat)} {o o':Option ak} {id:Nat} {b:Option ak} {p:AP aD} {d:Option Nat} {ops r:List Oper} {K:List KF} {m:Tm} {h:PT ak} {n lo:Nat} {rd wr:List Nat} {fs:List bD} (ho:o=o'):AI z L o id b p d ops r K m h n lo rd wr fs=AI z L o' id b p d ops r K m h n lo rd wr fs:=by rw[ho]
@[congr] theorem NL {z:Zx} {L:List (Nat×Nat)} {s s':Option (AP Value)} {f:FuncId} {args:List Value} {d:Option Nat} {ops r:List Oper} {K:List KF} {m:Tm} {h:PT ak} {n lo:Nat} {rd wr:List Nat} {fs:List bD} (hs:s=s'):Dq z L s f args d ops r K m h n lo rd wr fs=Dq z L s' f args d ops r K m h n lo rd wr fs:=by rw[hs]
@[congr] theorem SQ {m:Tm} {i:Nat} {v:Value}:up m i v=up m i v:=rfl
@[go_sem] theorem aa2 {m:Tm} {i j:Nat} {v:Value}:(up m i v).get j=if i=j then v else m.get j:=by
 by_cases h:i=j
 ·subst h;rw[if_pos rfl,yq]
 ·rw[if_neg h,Dh h]
@[go_sem] theorem SR {m:Tm} {i:Nat}:m.eval (.tmp i)=m.get i:=rfl
@[go_sem] theorem eval_const {m:Tm} {v:Value}:m.eval (.const v)=v:=rfl
@[go_sem] theorem eval_func {m:Tm} {f:FuncId}:m.eval (.func f) = .func (.func f) ⟨[]⟩ ⟨[]⟩:=rfl
@[go_sem] theorem SS {N:Nat} {L:List Value} {D:List Nat} {i:Nat}:(⟨N,PT.ofList .leaf 0 L,D⟩:Tm).get i=(L[i]?).getD cZ:=by
 unfold Tm.get
 simp only[PT.aI]
 cases L[i]? <;> rfl
@[go_sem] theorem bC {h:PT ak} {i:Nat} {b:Option ak}:(h.set i b).get i=b:=PT.gl _ _ _
@[go_sem] theorem aE {h:PT ak} {i j:Nat} {b:Option ak} (hij:i≠j):(h.set i b).get j=h.get j:=PT.bO _ _ hij
@[go_sem] theorem NN {a b:Nat} (h:a≠b):Nat.beq a b=false:=by
 cases hb:Nat.beq a b with
 |false=>rfl
 |true=>exact absurd (Nat.eq_of_beq_eq_true hb) h
@[go_sem] theorem oJ (a:Nat):Nat.beq a a=true:=by
 induction a with
 |zero=>rfl
 |succ n ih=>exact ih
@[go_sem] theorem jT {a b:Nat} (h:a≤b):Nat.ble a b=true:=Nat.ble_eq_true_of_le h
@[go_sem] theorem ec {a b:Nat} (h:b<a):Nat.ble a b=false:=by
 cases hb:Nat.ble a b with
 |false=>rfl
 |true=>exact absurd (Nat.le_of_ble_eq_true hb) (by omega)
@[go_sem] theorem SU {a b:Nat} (h:a<b):Nat.blt a b=true:=Nat.ble_eq_true_of_le h
@[go_sem] theorem Du {a b:Nat} (h:b≤a):Nat.blt a b=false:=ec (by omega)
@[go_sem] theorem QC {k:IntKind} {i:Int} (h:0≤i):asNat (.int k i)=some i.toNat:=by
 obtain⟨n,rfl⟩:=Int.eq_ofNat_of_zero_le h
 rfl
@[go_sem] theorem QD {k:IntKind} {n:Nat}:asNat (.int k (n:Int))=some n:=rfl
@[go_sem] theorem QE (n:Nat):(n:Int).toNat=n:=rfl
@[go_sem] theorem SV {n:Nat} {k:IntKind} {i:Int}:flat n (.int k i)=true:=by cases n<;>rfl
@[go_sem] theorem QF {n:Nat} {b:Bool}:flat n (.bool b)=true:=by cases n<;>rfl
@[go_sem] theorem NP {i:Nat}:aX (.tmp i)=true:=rfl
@[go_sem] theorem LR {i:Nat}:aX (.func i)=true:=rfl
@[go_sem] theorem NQ {k:IntKind} {i:Int}:aX (.const (.int k i))=true:=rfl
@[go_sem] theorem LS {b:Bool}:aX (.const (.bool b))=true:=rfl
@[go_sem] theorem Iy:aX (.const (.pointer none))=true:=rfl
@[go_sem] theorem Ek {n c:Nat}:aX (.const (.slice none n c))=true:=rfl
@[go_sem] theorem NR {s:ByteArray}:aX (.const (.string s))=true:=rfl
@[go_sem] theorem Iz:aX (.const (.map none))=true:=rfl
@[go_sem] theorem FM:aX (.const .nilFunc)=true:=rfl
@[go_sem] theorem El:aX (.const .nilIface)=true:=rfl
@[go_sem] theorem NS {l:Array Value}:aX (.const (.agg l))=l.toList.all (flat 3):=rfl
@[go_sem] theorem JJ {ops:List Oper} {m:Tm} {d:Option Tmp} {op:Op} {t:TypeId} {pos:String} {af:Array Edge}:bJ ops m ⟨d,op,t,pos,af,none⟩=true:=rfl
def wk (v:Option Value) (want:Bool):Bool:=match v with
 |some (.bool b)=>b==want
 | _=>false
def pM (ops:List Oper) (j:Nat):Option Nat:=match ops[j]? with
 |some o=>o.dst
 |none=>none
@[go_sem] theorem JK {ops:List Oper} {m:Tm} {d:Option Tmp} {op:Op} {t:TypeId} {pos:String} {af:Array Edge} {j:Nat} {want:Bool}:
  bJ ops m ⟨d,op,t,pos,af,some (j,want)⟩=wk ((pM ops j).map m.get) want:=by
 simp only[bJ,fc,wk,pM]
 cases ops[j]? with
 |none=>rfl
 |some o=>
  simp only
  cases o.dst with
  |none=>rfl
  |some d=>simp only[Option.map_some];cases m.get d<;>rfl
@[go_sem] theorem LU {b:Bool}:wk (some (.bool b)) true=b:=by cases b<;>rfl
@[go_sem] theorem JL {b:Bool}:wk (some (.bool b)) false = !b:=by cases b<;>rfl
@[go_sem] theorem LV {o:Oper} {l:List Oper}:pM (o::l) 0=o.dst:=rfl
@[go_sem] theorem LW {o:Oper} {l:List Oper} {j:Nat}:pM (o::l) (j+1)=pM l j:=by simp[pM]
theorem JM {z:Zx} {o:Oper} {ops r:List Oper} {K:List KF} {m:Tm} {h:PT ak} {n:Nat} {p:Prop} [Decidable p] (h1:p→jI z true o ops r K m h n) (h2: ¬ p→jI z false o ops r K m h n):jI z (decide p) o ops r K m h n:=by
 by_cases hp:p
 ·simpa [hp] using h1 hp
 ·simpa [hp] using h2 hp
theorem JN {z:Zx} {L:List (Nat×Nat)} {o:Oper} {ops r:List Oper} {K:List KF} {m:Tm} {h:PT ak} {n:Nat} {fs:List bD} {p:Prop} [Decidable p] (h1:p→jJ z L true o ops r K m h n fs) (h2: ¬ p→jJ z L false o ops r K m h n fs):jJ z L (decide p) o ops r K m h n fs:=by
 by_cases hp:p
 ·simpa [hp] using h1 hp
 ·simpa [hp] using h2 hp
theorem dL (L:List Value):∀ (k off:Nat),aP (PT.ofList .leaf 0 L) off k=cond (Nat.ble (off+k) L.length||Nat.beq k 0) (some ((L.drop off).take k)) none
 |0,off=>by simp[aP]
 |k+1,off=>by
  rw[aP,PT.aI,show Nat.succ off=off+1 from rfl,dL L k (off+1)]
  by_cases h1:off<L.length
  ·rw[List.getElem?_eq_getElem h1]
   simp only
   by_cases h2:off+(k+1)≤L.length
   ·rw[jT h2,jT (show off+1+k≤L.length by omega)]
    simp only[Bool.true_or,cond_true]
    rw[List.drop_eq_getElem_cons h1,List.take_succ_cons]
   ·rw[ec (show L.length<off+(k+1) by omega),ec (show L.length<off+1+k by omega)]
    have:Nat.beq k 0=false:=NN (by omega)
    simp[this,show Nat.beq (k+1) 0=false from rfl]
  ·rw[List.getElem?_eq_none (by omega),ec (show L.length<off+(k+1) by omega)]
   simp[show Nat.beq (k+1) 0=false from rfl]
def sO:List Value→Nat→List Value→List Value
 |L,_,[]=>L
 |L,off,v::vs=>sO (L.set off v) (off+1) vs
theorem yy:∀ (vs L:List Value) (off:Nat),(sO L off vs).length=L.length
 | [],L,off=>rfl
 |v::vs,L,off=>by rw[sO,yy vs];simp
theorem je:∀ (vs L:List Value) (off:Nat),bt (PT.ofList .leaf 0 L) off vs=cond ((Nat.ble (off+vs.length) L.length||vs.isEmpty)&&vs.all bn) (some (PT.ofList .leaf 0 (sO L off vs))) none
 | [],L,off=>by simp[bt,sO]
 |v::vs,L,off=>by
  rw[bt,PT.aI]
  by_cases h1:off<L.length
  ·rw[List.getElem?_eq_getElem h1]
   simp only
   cases hv:bn v with
   |false=>simp[hv]
   |true=>
    simp only[cond_true,List.all_cons,hv,Bool.true_and,List.isEmpty_cons,Bool.or_false,List.length_cons]
    rw[mJ _ _ _ h1,show Nat.succ off=off+1 from rfl,je vs (L.set off v) (off+1)]
    simp only[List.length_set]
    by_cases h2:off+(vs.length+1)≤L.length
    ·rw[jT h2,jT (show off+1+vs.length≤L.length by omega)];rfl
    ·rw[ec (show L.length<off+(vs.length+1) by omega),ec (show L.length<off+1+vs.length by omega)]
     cases vs with
     |nil=>simp at h2;omega
     |cons x xs=>rfl
  ·rw[List.getElem?_eq_none (by omega)]
   have:Nat.ble (off+(v::vs).length) L.length=false:=ec (by simp;omega)
   rw[this];rfl
@[go_sem] theorem SW {L:List Value} {off:Nat}:sO L off []=L:=rfl
@[go_sem] theorem SX {L:List Value} {off:Nat} {v:Value}:sO L off [v]=L.set off v:=rfl
@[go_sem] theorem QG {L vs:List Value} {off:Nat} {v:Value}:sO L off (v::vs)=sO (L.set off v) (off+1) vs:=rfl
def cg (P:Program) (t:TypeId):Option Nat:=(P.info? t).map (·.size)
def cq (P:Program) (t:TypeId):Option Bool:=(P.underlying t).map isAgg
def dH (P:Program) (t:TypeId):Option (List Value):=(zeroOf P t).map (·.cells.toList)
def bS (P:Program) (s:TypeId) (f:Nat):Option (Nat×Nat):=
 match P.underlying s with
 |some (.struct fs)=>match fs.toList[f]? with
  |some fd=>(P.info? fd.type).map fun i=>(fd.offset,i.size)
  |none=>none
 | _=>none
def bU (P:Program) (s:TypeId) (f:Nat):Option (Nat×Nat×Bool):=
 match P.underlying s with
 |some (.struct fs)=>match fs.toList[f]? with
  |some fd=>match P.info? fd.type,P.underlying fd.type with
   |some i,some d=>some (fd.offset,i.size,isAgg d)
   | _,_=>none
  |none=>none
 | _=>none
def zI (P:Program) (t:TypeId):Option (Option Nat×Nat):=
 match P.underlying t with
 |some (.array n e)=>(P.info? e).map fun i=>(some n,i.size)
 |some (.slice e)=>(P.info? e).map fun i=>(none,i.size)
 | _=>none
section ops
variable {P:Program} {ρ:Operand→Value} {d:Option Tmp} {ty:TypeId} {pos:String} {af:Array Edge} {g:Option (Nat×Bool)}
@[go_sem] theorem FN {e:TypeId}:(Op.alloc e).operands=#[]:=rfl
@[go_sem] theorem IA {x:Operand}:(Op.move x).operands=#[x]:=rfl
@[go_sem] theorem Em {x:Operand}:(Op.assign x).operands=#[x]:=rfl
@[go_sem] theorem JO {t:TypeId} {x:Operand}:(Op.box t x).operands=#[x]:=rfl
@[go_sem] theorem IC {t:TypeId} {x:Operand}:(Op.load t x).operands=#[x]:=rfl
@[go_sem] theorem BW {x:Operand}:(Op.nilCheck x).operands=#[x]:=rfl
@[go_sem] theorem IE {o:UnOp} {t:TypeId} {x:Operand}:(Op.unOp o t x).operands=#[x]:=rfl
@[go_sem] theorem Dv {s t:TypeId} {x:Operand}:(Op.convert s t x).operands=#[x]:=rfl
@[go_sem] theorem wm {t:TypeId} {x:Operand}:(Op.makeInterface t x).operands=#[x]:=rfl
@[go_sem] theorem AK {t:TypeId} {x:Operand} {f:Nat}:(Op.fieldAddr t x f).operands=#[x]:=rfl
@[go_sem] theorem FO {t:TypeId} {x:Operand} {f:Nat}:(Op.field t x f).operands=#[x]:=rfl
@[go_sem] theorem FP {t:TypeId} {x:Operand}:(Op.range t x).operands=#[x]:=rfl
@[go_sem] theorem IF {b:Bool} {x:Operand}:(Op.next x b).operands=#[x]:=rfl
@[go_sem] theorem FQ {x:Operand}:(Op.entry x).operands=#[x]:=rfl
@[go_sem] theorem Dw {x:Operand} {i:Nat}:(Op.extract x i).operands=#[x]:=rfl
@[go_sem] theorem IG {a b c:Operand}:(Op.pick a b c).operands=#[a,b,c]:=rfl
@[go_sem] theorem FR {t:TypeId} {ps:Array (Nat×Operand)}:(Op.build t ps).operands=(ps.toList.map (·.2)).toArray:=rfl
@[go_sem] theorem zJ {t:TypeId} {n:Nat} {ps:Array (Nat×Operand)}:(Op.buildSlice t n ps).operands=(ps.toList.map (·.2)).toArray:=rfl
@[go_sem] theorem FT {t:TypeId} {a v:Operand}:(Op.store t a v).operands=#[a,v]:=rfl
@[go_sem] theorem FU {o:BinOp} {t:TypeId} {a v:Operand} {t':TypeId}:(Op.binOp o t a v t').operands=#[a,v]:=rfl
@[go_sem] theorem AL {t:TypeId} {a v:Operand}:(Op.makeSlice t a v).operands=#[a,v]:=rfl
@[go_sem] theorem AO {t:TypeId} {a v:Operand}:(Op.indexAddr t a v).operands=#[a,v]:=rfl
@[go_sem] theorem FV {t:TypeId} {a v:Operand}:(Op.index t a v).operands=#[a,v]:=rfl
@[go_sem] theorem En {t:TypeId} {a v:Operand} {b:Bool}:(Op.lookup t a v b).operands=#[a,v]:=rfl
@[go_sem] theorem BX {f:Fn} {a v:Array Operand}:(Op.makeFunc f a v).operands=a++v:=rfl
@[go_sem] theorem Dx {t:TypeId} {r:Option Operand}:(Op.makeMap t r).operands=r.toArray:=rfl
@[go_sem] theorem FW {t:TypeId} {x:Operand} {l h m:Option Operand}:(Op.slice t x l h m).operands=#[x]++l.toArray++h.toArray++m.toArray:=rfl
@[go_sem] theorem AQ {t:TypeId} {a b c:Operand}:(Op.mapUpdate t a b c).operands=#[a,b,c]:=rfl
@[go_sem] theorem Eo {t:TypeId} {a b c:Operand}:(Op.insert t a b c).operands=#[a,b,c]:=rfl
@[go_sem] theorem II {f:Operand} {as:Array Operand} {ts:Array TypeId}:(Op.call ⟨.value f,as,ts⟩).operands=(⟨.value f,as,ts⟩:Call).operands:=rfl
@[go_sem] theorem Dy {b:Builtin} {as:Array Operand} {ts:Array TypeId}:(Op.call ⟨.builtin b,as,ts⟩).operands=(⟨.builtin b,as,ts⟩:Call).operands:=rfl
@[go_sem] theorem SY {x:Operand}:jk P ρ ⟨d,.move x,ty,pos,af,g⟩ = .pure (.value (ρ x)):=rfl
@[go_sem] theorem NT {x:Operand}:jk P ρ ⟨d,.assign x,ty,pos,af,g⟩ = .pure (.value (ρ x)):=rfl
def LX (c a b:Value):AP aD:=match c with
 | .bool t => .pure (.value (cond t a b))
 | _ => .fail "pick"
@[go_sem] theorem SZ {c a b:Operand}:jk P ρ ⟨d,.pick c a b,ty,pos,af,g⟩=LX (ρ c) (ρ a) (ρ b):=rfl
@[go_sem] theorem NU {t:Bool} {a b:Value}:LX (.bool t) a b = .pure (.value (cond t a b)):=rfl
def qU (w:String) (o:Option Value):AP aD:=match o with
 |some v => .pure (.value v)
 |none => .fail w
@[go_sem] theorem QH {w:String} {v:Value}:qU w (some v) = .pure (.value v):=rfl
@[go_sem] theorem bind_pure {α β:Type} {a:α} {f:α→AP β}:(AP.pure a).bind f=f a:=rfl
@[go_sem] theorem FX {α β:Type} {id:Nat} {k:ak→AP α} {f:α→AP β}:(AP.get id k).bind f = .get id fun b=>(k b).bind f:=rfl
@[go_sem] theorem S_ {α β:Type} {id:Nat} {b:ak} {k:AP α} {f:α→AP β}:(AP.set id b k).bind f = .set id b (k.bind f):=rfl
@[go_sem] theorem QI {α β:Type} {id:Nat} {k:AP α} {f:α→AP β}:(AP.kill id k).bind f = .kill id (k.bind f):=rfl
@[go_sem] theorem Ta {α β:Type} {b:ak} {k:Nat→AP α} {f:α→AP β}:(AP.new b k).bind f = .new b fun i=>(k i).bind f:=rfl
def Tb (off:Nat):ak→AP aD
 | .cells c _=>qU "load" (c.get off)
 | _ => .fail "load"
def Tc (off s:Nat):ak→AP aD
 | .cells c _=>qU "load" ((aP c off s).map fun l => .agg ⟨l⟩)
 | _ => .fail "load"
def BZ (g:Option Bool) (s:Option Nat) (x:Value):AP aD:=match x,s,g with
 | .pointer (some a),some s,some g => .get a.block (cond g (Tc a.off s) (Tb a.off))
 | _,_,_ => .fail "load"
@[go_sem] theorem Td {t:TypeId} {a:Operand}:jk P ρ ⟨d,.load t a,ty,pos,af,g⟩=BZ (cq P t) (cg P t) (ρ a):=by
 show (dX P t (ρ a)).bind _=_
 unfold dX BZ cq cg
 generalize ρ a=x
 cases x with
 |pointer p=>
  cases p with
  |none=>rfl
  |some a=>
   cases P.info? t with
   |none=>rfl
   |some i=>
    cases P.underlying t with
    |none=>rfl
    |some u=>
     simp only[Option.map_some,AP.bind]
     congr 1
     funext b
     cases isAgg u<;>cases b<;>simp only[cond_true,cond_false,Tb,Tc]<;>first |rfl |skip
     ·rename_i c ro
      cases c.get a.off<;>rfl
     ·rename_i c ro
      cases aP c a.off i.size<;>rfl
 | _=>rfl
@[go_sem] theorem VD {s b off:Nat} {sp:Option Nat}:BZ (some false) (some s) (.pointer (some ⟨b,off,sp⟩)) = .get b (Tb off):=rfl
@[go_sem] theorem VE {s b off:Nat} {sp:Option Nat}:BZ (some true) (some s) (.pointer (some ⟨b,off,sp⟩)) = .get b (Tc off s):=rfl
@[go_sem] theorem VF {L:List Value} {ro:Bool} {off:Nat}:Tb off (.cells (PT.ofList .leaf 0 L) ro)=qU "load" L[off]? := by simp[Tb,PT.aI]
@[go_sem] theorem VG {L:List Value} {ro:Bool} {off s:Nat}:Tc off s (.cells (PT.ofList .leaf 0 L) ro)=cond (Nat.ble (off+s) L.length||Nat.beq s 0) (.pure (.value (.agg ⟨(L.drop off).take s⟩))) (.fail "load"):=by
 simp only[Tc,dL]
 cases (Nat.ble (off+s) L.length||Nat.beq s 0)<;>rfl
def Te (b off:Nat) (vs:List Value):ak→AP aD
 | .cells c false=>match bt c off vs with
  |some c' => .set b (.cells c' false) (.pure .skip)
  |none => .fail "store"
 | _ => .fail "store"
def AU (s:Option Nat) (x:Value) (vs:List Value):AP aD:=match x,s with
 | .pointer (some a),some s=>cond (Nat.beq vs.length s) (.get a.block (Te a.block a.off vs)) (.fail "store")
 | _,_ => .fail "store"
@[go_sem] theorem QJ {t:TypeId} {a x:Operand}:jk P ρ ⟨d,.store t a x,ty,pos,af,g⟩=AU (cg P t) (ρ a) (ρ x).cells.toList:=by
 show (jX P t (ρ a) (ρ x)).bind _=_
 unfold jX AU cg
 generalize ρ a=y
 cases y with
 |pointer p=>
  cases p with
  |none=>rfl
  |some a=>
   cases P.info? t with
   |none=>rfl
   |some i=>
    simp only[Option.map_some]
    cases Nat.beq (ρ x).cells.toList.length i.size with
    |false=>rfl
    |true=>
     simp only[cond_true,AP.bind]
     congr 1
     funext b
     cases b with
     |cells c ro=>cases ro with
      |true=>rfl
      |false=>simp only[Te];cases bt c a.off (ρ x).cells.toList<;>rfl
     | _=>rfl
 | _=>rfl
@[go_sem] theorem NV {s b off:Nat} {sp:Option Nat} {vs:List Value}:AU (some s) (.pointer (some ⟨b,off,sp⟩)) vs=cond (Nat.beq vs.length s) (.get b (Te b off vs)) (.fail "store"):=rfl
@[go_sem] theorem VH {L vs:List Value} {b off:Nat}:Te b off vs (.cells (PT.ofList .leaf 0 L) false)=cond ((Nat.ble (off+vs.length) L.length||vs.isEmpty)&&vs.all bn) (.set b (.cells (PT.ofList .leaf 0 (sO L off vs)) false) (.pure .skip)) (.fail "store"):=by
 simp only[Te,je]
 cases ((Nat.ble (off+vs.length) L.length||vs.isEmpty)&&vs.all bn)<;>rfl
@[go_sem] theorem QK {k:IntKind} {n:Int}:(Value.int k n).cells=#[.int k n]:=rfl
@[go_sem] theorem NW {b:Bool}:(Value.bool b).cells=#[.bool b]:=rfl
@[go_sem] theorem QL {a:Option Addr}:(Value.pointer a).cells=#[.pointer a]:=rfl
@[go_sem] theorem LY {a:Option Addr} {n c:Nat}:(Value.slice a n c).cells=#[.slice a n c]:=rfl
@[go_sem] theorem QM {a:Option Nat}:(Value.map a).cells=#[.map a]:=rfl
@[go_sem] theorem JQ {s:ByteArray}:(Value.string s).cells=#[.string s]:=rfl
@[go_sem] theorem NY {f:Fn} {x y:Array Value}:(Value.func f x y).cells=#[.func f x y]:=rfl
@[go_sem] theorem IJ:Value.nilFunc.cells=#[.nilFunc]:=rfl
@[go_sem] theorem LZ {t:TypeId} {v:Value}:(Value.iface t v).cells=#[.iface t v]:=rfl
@[go_sem] theorem FY:Value.nilIface.cells=#[.nilIface]:=rfl
@[go_sem] theorem QN {l:Array Value}:(Value.agg l).cells=l:=rfl
@[go_sem] theorem VI {k:IntKind} {n:Int}:bn (Value.int k n)=true:=rfl
@[go_sem] theorem Tf {b:Bool}:bn (Value.bool b)=true:=rfl
@[go_sem] theorem VJ {a:Option Addr}:bn (Value.pointer a)=true:=rfl
@[go_sem] theorem QO {a:Option Addr} {n c:Nat}:bn (Value.slice a n c)=true:=rfl
@[go_sem] theorem VK {a:Option Nat}:bn (Value.map a)=true:=rfl
@[go_sem] theorem NZ {s:ByteArray}:bn (Value.string s)=true:=rfl
@[go_sem] theorem Tg {f:Fn} {x y:Array Value}:bn (Value.func f x y)=true:=rfl
@[go_sem] theorem L5:bn Value.nilFunc=true:=rfl
@[go_sem] theorem QS {t:TypeId} {v:Value}:bn (Value.iface t v)=true:=rfl
@[go_sem] theorem JR:bn Value.nilIface=true:=rfl
@[go_sem] theorem VL {t:TypeId} {x:Operand}:jk P ρ ⟨d,.box t x,ty,pos,af,g⟩ = .new (.cells (PT.ofList .leaf 0 (ρ x).cells.toList) false) fun id => .pure (.value (.pointer (some ⟨id,0,none⟩))):=rfl
def FZ (z:Option (List Value)):AP aD:=match z with
 |some l => .new (.cells (PT.ofList .leaf 0 l) false) fun id => .pure (.value (.pointer (some ⟨id,0,none⟩)))
 |none => .fail "alloc"
@[go_sem] theorem QT {t:TypeId}:jk P ρ ⟨d,.alloc t,ty,pos,af,g⟩=FZ (dH P t):=by
 show (nH P t).bind _=_
 unfold nH dH
 cases zeroOf P t<;>rfl
@[go_sem] theorem L6 {l:List Value}:FZ (some l) = .new (.cells (PT.ofList .leaf 0 l) false) fun id => .pure (.value (.pointer (some ⟨id,0,none⟩))):=rfl
def faQ (f:Option (Nat×Nat)) (x:Value):AP aD:=match x,f with
 | .pointer (some a),some (o,s)=>cond (Nat.beq s 0) (.fail "fieldAddr") (.pure (.value (.pointer (some (jB a o)))))
 | _,_ => .fail "fieldAddr"
@[go_sem] theorem IK {t:TypeId} {x:Operand} {f:Nat}:jk P ρ ⟨d,.fieldAddr t x f,ty,pos,af,g⟩=faQ (bS P t f) (ρ x):=by
 show (ew P t (ρ x) f).bind _=_
 unfold ew faQ bS
 generalize ρ x=y
 cases y with
 |pointer p=>
  cases p with
  |none=>rfl
  |some a=>
   cases P.underlying t with
   |none=>rfl
   |some u=>
    cases u with
    |struct fs=>
     simp only
     cases fs.toList[f]? with
     |none=>rfl
     |some fd=>
      simp only
      cases P.info? fd.type with
      |none=>rfl
      |some i=>simp only[Option.map_some];cases Nat.beq i.size 0<;>rfl
    | _=>rfl
 | _=>rfl
@[go_sem] theorem VM {b off:Nat} {sp:Option Nat} {o s:Nat}:faQ (some (o,s)) (.pointer (some ⟨b,off,sp⟩))=cond (Nat.beq s 0) (.fail "fieldAddr") (.pure (.value (.pointer (some ⟨b,off+o,none⟩)))):=rfl
def nB (cs:List Value) (off s:Nat) (agg:Bool):Option Value:=cond agg (some (.agg ⟨(cs.drop off).take s⟩)) cs[off]?
@[go_sem] theorem N6 {cs:List Value} {off s:Nat}:nB cs off s true=some (.agg ⟨(cs.drop off).take s⟩):=rfl
@[go_sem] theorem L7 {cs:List Value} {off s:Nat}:nB cs off s false=cs[off]? := rfl
def fdQ (f:Option (Nat×Nat×Bool)) (x:Value):AP aD:=match x,f with
 | .agg cs,some (o,s,g)=>qU "field" (nB cs.toList o s g)
 | _,_ => .fail "field"
theorem yz {t:TypeId} {cs:List Value} {off:Nat}:jo P t cs off=match P.info? t,P.underlying t with |some i,some u=>nB cs off i.size (isAgg u) | _,_=>none:=by
 unfold jo
 cases P.info? t with
 |none=>rfl
 |some i=>cases P.underlying t with
  |none=>rfl
  |some u=>simp only[nB]
@[go_sem] theorem QU {t:TypeId} {x:Operand} {f:Nat}:jk P ρ ⟨d,.field t x f,ty,pos,af,g⟩=fdQ (bU P t f) (ρ x):=by
 show (nJ P t (ρ x) f).bind _=_
 unfold nJ fdQ bU
 generalize ρ x=y
 cases y with
 |agg cs=>
  cases P.underlying t with
  |none=>rfl
  |some u=>
   cases u with
   |struct fs=>
    simp only
    cases fs.toList[f]? with
    |none=>rfl
    |some fd=>
     simp only[yz]
     cases P.info? fd.type with
     |none=>rfl
     |some i=>
      cases P.underlying fd.type with
      |none=>rfl
      |some u=>
       simp only[AP.opt]
       cases nB cs.toList fd.offset i.size (isAgg u)<;>rfl
   | _=>rfl
 | _=>rfl
@[go_sem] theorem VN {cs:Array Value} {o s:Nat} {b:Bool}:fdQ (some (o,s,b)) (.agg cs)=qU "field" (nB cs.toList o s b):=rfl
def VO (k:Option (Option Nat×Nat)) (x:Value) (i:Option Nat):AP aD:=match k,x,i with
 |some (some len,s),.pointer (some a),some n=>cond (Nat.blt n len) (.pure (.value (.pointer (some (jB a (n*s)))))) (.fail "indexAddr")
 |some (none,s),.slice (some a) len _,some n=>cond (Nat.blt n len) (.pure (.value (.pointer (some (jB a (n*s)))))) (.fail "indexAddr")
 | _,_,_ => .fail "indexAddr"
@[go_sem] theorem IL {t:TypeId} {x i:Operand}:jk P ρ ⟨d,.indexAddr t x i,ty,pos,af,g⟩=VO (zI P t) (ρ x) (asNat (ρ i)):=by
 show (dI P t (ρ x) (ρ i)).bind _=_
 unfold dI VO zI
 generalize ρ x=y
 generalize asNat (ρ i)=j
 cases hu:P.underlying t with
 |none=>rfl
 |some u=>
  cases u with
  |array len e=>
   cases y with
   |pointer p=>cases p with
    |none=>cases j<;>dsimp only<;>cases P.info? e<;>rfl
    |some a=>cases j with
     |none=>dsimp only;cases P.info? e<;>rfl
     |some n=>
      dsimp only
      cases P.info? e with
      |none=>rfl
      |some i=>simp only[Option.map_some];cases Nat.blt n len<;>rfl
   | _=>dsimp only;cases P.info? e<;>rfl
  |slice e=>
   cases y with
   |slice p len c=>cases p with
    |none=>cases j<;>dsimp only<;>cases P.info? e<;>rfl
    |some a=>cases j with
     |none=>dsimp only;cases P.info? e<;>rfl
     |some n=>
      dsimp only
      cases P.info? e with
      |none=>rfl
      |some i=>simp only[Option.map_some];cases Nat.blt n len<;>rfl
   | _=>dsimp only;cases P.info? e<;>rfl
  | _=>rfl
@[go_sem] theorem VP {len s b off n:Nat} {sp:Option Nat}:VO (some (some len,s)) (.pointer (some ⟨b,off,sp⟩)) (some n)=cond (Nat.blt n len) (.pure (.value (.pointer (some ⟨b,off+n*s,none⟩)))) (.fail "indexAddr"):=rfl
@[go_sem] theorem QV {len c s b off n:Nat} {sp:Option Nat}:VO (some (none,s)) (.slice (some ⟨b,off,sp⟩) len c) (some n)=cond (Nat.blt n len) (.pure (.value (.pointer (some ⟨b,off+n*s,none⟩)))) (.fail "indexAddr"):=rfl
def VQ (k:Option (Nat×Nat×Bool)) (x:Value) (i:Option Nat):AP aD:=match k,x,i with
 |some (len,s,b),.agg cs,some n=>cond (Nat.blt n len) (qU "index" (nB cs.toList (n*s) s b)) (.fail "index")
 |none,.string s,some n=>qU "index" (s.data.toList[n]?.map fun b => .int .u8 b.toNat)
 | _,_,_ => .fail "index"
def Ti (P:Program) (t:TypeId):Option (Nat×Nat×Bool):=
 match P.underlying t with
 |some (.array n e)=>match P.info? e,P.underlying e with
  |some i,some u=>some (n,i.size,isAgg u)
  | _,_=>none
 | _=>none
theorem AV {t:TypeId} {x i:Operand} {cs:Array Value} (hx:ρ x = .agg cs):jk P ρ ⟨d,.index t x i,ty,pos,af,g⟩=VQ (Ti P t) (.agg cs) (asNat (ρ i)):=by
 show (lq P t (ρ x) (ρ i)).bind _=_
 rw[hx]
 unfold lq VQ Ti
 generalize asNat (ρ i)=j
 cases hu:P.underlying t with
 |none=>rfl
 |some u=>
  cases u with
  |array len e=>
   cases j with
   |none=>simp only;cases P.info? e with
    |none=>rfl
    |some i=>cases P.underlying e<;>rfl
   |some n=>
    simp only[yz]
    cases P.info? e with
    |none=>rfl
    |some i=>
     simp only
     cases P.underlying e with
     |none=>cases Nat.blt n len<;>rfl
     |some u=>simp only;cases Nat.blt n len with
      |false=>rfl
      |true=>simp only[cond_true];cases nB cs.toList (n*i.size) i.size (isAgg u)<;>rfl
  |string=>cases j<;>rfl
  | _=>rfl
def F1 (P:Program) (t:TypeId) (x i:Value):AP aD:=(lq P t x i).bind fun v => .pure (.value v)
@[go_sem] theorem QW {t:TypeId} {x i:Operand}:jk P ρ ⟨d,.index t x i,ty,pos,af,g⟩=F1 P t (ρ x) (ρ i):=rfl
@[go_sem] theorem N7 {t:TypeId} {i:Value} {cs:Array Value}:F1 P t (.agg cs) i=VQ (Ti P t) (.agg cs) (asNat i):=
 AV (ρ:=fun o=>match o with | .tmp 0 => .agg cs | _=>i) (x := .tmp 0) (i := .tmp 1) (d:=none) (ty:=0) (pos := "") (af:=#[]) (g:=none) rfl
@[go_sem] theorem VR {len s n:Nat} {b:Bool} {cs:Array Value}:VQ (some (len,s,b)) (.agg cs) (some n)=cond (Nat.blt n len) (qU "index" (nB cs.toList (n*s) s b)) (.fail "index"):=rfl
def cY (P:Program) (o:BinOp) (t:TypeId) (cx cy:Bool) (x y:Value):AP aD:=(dR P o t cx cy x y).bind fun v => .pure (.value v)
@[go_sem] theorem QX {o:BinOp} {t t':TypeId} {x y:Operand}:jk P ρ ⟨d,.binOp o t x y t',ty,pos,af,g⟩=cY P o t (isConst x) (isConst y) (ρ x) (ρ y):=rfl
section
variable {t:TypeId} {cx cy:Bool} {k k':IntKind} {a b:Int}
@[go_sem] theorem Tj:cY P .add t cx cy (.int k a) (.int k b) = .pure (.value (.int k (k.wrap (a+b)))):=by show AP.bind (ite (k=k) _ _) _=_;rw[if_pos rfl];rfl
@[go_sem] theorem Tk:cY P .sub t cx cy (.int k a) (.int k b) = .pure (.value (.int k (k.wrap (a-b)))):=by show AP.bind (ite (k=k) _ _) _=_;rw[if_pos rfl];rfl
@[go_sem] theorem Tl:cY P .mul t cx cy (.int k a) (.int k b) = .pure (.value (.int k (k.wrap (a*b)))):=by show AP.bind (ite (k=k) _ _) _=_;rw[if_pos rfl];rfl
@[go_sem] theorem Tn:cY P .quo t cx cy (.int k a) (.int k b)=cond (decide (b=0)) (.fail "intOp") (.pure (.value (.int k (k.wrap (a.tdiv b))))):=by
 show AP.bind (ite (k=k) _ _) _=_
 rw[if_pos rfl]
 by_cases h:b=0<;>simp[intOp,h,AP.opt,AP.bind]
@[go_sem] theorem Tp:cY P .rem t cx cy (.int k a) (.int k b)=cond (decide (b=0)) (.fail "intOp") (.pure (.value (.int k (a.tmod b)))):=by
 show AP.bind (ite (k=k) _ _) _=_
 rw[if_pos rfl]
 by_cases h:b=0<;>simp[intOp,h,AP.opt,AP.bind]
@[go_sem] theorem Tq:cY P .and t cx cy (.int k a) (.int k b) = .pure (.value (.int k (k.wrap (BitVec.ofInt k.bits a&&&BitVec.ofInt k.bits b).toNat))):=by show AP.bind (ite (k=k) _ _) _=_;rw[if_pos rfl];rfl
@[go_sem] theorem VT:cY P .or t cx cy (.int k a) (.int k b) = .pure (.value (.int k (k.wrap (BitVec.ofInt k.bits a|||BitVec.ofInt k.bits b).toNat))):=by show AP.bind (ite (k=k) _ _) _=_;rw[if_pos rfl];rfl
@[go_sem] theorem Tr:cY P .eql t cx cy (.int k a) (.int k b) = .pure (.value (.bool (decide (a=b)))):=by show AP.bind (ite (k=k) _ _) _=_;rw[if_pos rfl];rfl
@[go_sem] theorem Ts:cY P .neq t cx cy (.int k a) (.int k b) = .pure (.value (.bool (decide (a≠b)))):=by show AP.bind (ite (k=k) _ _) _=_;rw[if_pos rfl];exact congrArg (fun z=>AP.pure (aD.value (Value.bool z))) (by by_cases h:a=b<;>simp[h])
@[go_sem] theorem Tt:cY P .lss t cx cy (.int k a) (.int k b) = .pure (.value (.bool (decide (a<b)))):=by show AP.bind (ite (k=k) _ _) _=_;rw[if_pos rfl];rfl
@[go_sem] theorem Tv:cY P .leq t cx cy (.int k a) (.int k b) = .pure (.value (.bool (decide (a≤b)))):=by show AP.bind (ite (k=k) _ _) _=_;rw[if_pos rfl];rfl
@[go_sem] theorem Tw:cY P .gtr t cx cy (.int k a) (.int k b) = .pure (.value (.bool (decide (b<a)))):=by show AP.bind (ite (k=k) _ _) _=_;rw[if_pos rfl];rfl
@[go_sem] theorem Tx:cY P .geq t cx cy (.int k a) (.int k b) = .pure (.value (.bool (decide (b≤a)))):=by show AP.bind (ite (k=k) _ _) _=_;rw[if_pos rfl];rfl
def F2 (u:Option TypeDesc) (neg:Bool) (x:Option Addr):AP aD:=match u with
 |some (.pointer _) => .pure (.value (.bool (x.isNone^^neg)))
 | _ => .fail "equal"
theorem sP {D:Nat} {x:Option Addr}:bN P (D+1) t (.pointer x) (.pointer none)=match P.underlying t with |some (.pointer _) => .pure x.isNone | _ => .fail "equal":=by
 unfold bN
 cases P.underlying t with
 |none=>cases x<;>rfl
 |some u=>cases u<;>cases x<;>rfl
@[go_sem] theorem L8 {x:Option Addr}:cY P .eql t cx cy (.pointer x) (.pointer none)=F2 (P.underlying t) false x:=by
 have:cY P .eql t cx cy (.pointer x) (.pointer none)=AP.bind ((bN P (11+1) t (.pointer x) (.pointer none)).bind fun b => .pure (.bool b)) fun v => .pure (.value v):=by
  simp only[cY,dR,bR,cond_true]
 rw[this,sP];unfold F2
 cases P.underlying t with
 |none=>rfl
 |some u=>cases u<;>first |rfl | (cases x<;>rfl)
@[go_sem] theorem L9 {x:Option Addr}:cY P .neq t cx cy (.pointer x) (.pointer none)=F2 (P.underlying t) true x:=by
 have:cY P .neq t cx cy (.pointer x) (.pointer none)=AP.bind ((bN P (11+1) t (.pointer x) (.pointer none)).bind fun b => .pure (.bool !b)) fun v => .pure (.value v):=by
  simp only[cY,dR,bR,cond_true]
 rw[this,sP];unfold F2
 cases P.underlying t with
 |none=>rfl
 |some u=>cases u<;>first |rfl | (cases x<;>rfl)
@[go_sem] theorem Ty {e:TypeId} {neg:Bool} {x:Option Addr}:F2 (some (.pointer e)) neg x = .pure (.value (.bool (x.isNone^^neg))):=rfl
end
def VU (o:UnOp) (x:Value):AP aD:=qU "unOp" (lp o x)
@[go_sem] theorem Tz {o:UnOp} {t:TypeId} {x:Operand}:jk P ρ ⟨d,.unOp o t x,ty,pos,af,g⟩=VU o (ρ x):=by
 show (AP.opt "unOp" (lp o (ρ x)) AP.pure).bind _=_
 unfold VU
 cases lp o (ρ x)<;>rfl
@[go_sem] theorem VW {k:IntKind} {a:Int}:VU .neg (.int k a) = .pure (.value (.int k (k.wrap (0-a)))):=rfl
@[go_sem] theorem VX {b:Bool}:VU .not (.bool b) = .pure (.value (.bool !b)):=rfl
def cvQ (s u:Option TypeDesc) (x:Value):AP aD:=match s,u,x with
 |some _,some (.int k),.int _ n => .pure (.value (.int k (k.wrap n)))
 |some _,some .string,.string s => .pure (.value (.string s))
 | _,_,_ => .fail "convert"
@[go_sem] theorem L_ {s t:TypeId} {x:Operand}:jk P ρ ⟨d,.convert s t x,ty,pos,af,g⟩=cvQ (P.underlying s) (P.underlying t) (ρ x):=by
 show (iW P s t (ρ x)).bind _=_
 unfold iW cvQ
 generalize ρ x=y
 cases P.underlying s with
 |none=>rfl
 |some a=>cases P.underlying t with
  |none=>rfl
  |some u=>cases u<;>cases y<;>rfl
@[go_sem] theorem VY {u:TypeDesc} {k k':IntKind} {n:Int}:cvQ (some u) (some (.int k)) (.int k' n) = .pure (.value (.int k (k.wrap n))):=rfl
def ncQ (x:Value):AP aD:=(iN x).bind fun v => .pure (.value v)
@[go_sem] theorem JS {x:Operand}:jk P ρ ⟨d,.nilCheck x,ty,pos,af,g⟩=ncQ (ρ x):=rfl
@[go_sem] theorem VZ {a:Addr}:ncQ (.pointer (some a)) = .pure (.value (.pointer (some a))):=rfl
def exQ (x:Value) (i:Nat):AP aD:=match x with
 | .tuple vs=>qU "extract" (vs.toList[i]?)
 | _ => .fail "extract"
@[go_sem] theorem Ma {x:Operand} {i:Nat}:jk P ρ ⟨d,.extract x i,ty,pos,af,g⟩=exQ (ρ x) i:=by
 show (gW (ρ x) i).bind _=_
 unfold gW exQ
 cases ρ x<;>first |rfl |skip
 rename_i vs
 simp only[AP.opt]
 cases vs.toList[i]? <;> rfl
@[go_sem] theorem QY {vs:Array Value} {i:Nat}:exQ (.tuple vs) i=qU "extract" (vs.toList[i]?):=rfl
@[go_sem] theorem JT {fn:Fn} {first captured:Array Operand}:jk P ρ ⟨d,.makeFunc fn first captured,ty,pos,af,g⟩=cond (iD fn) (.pure (.value (.func fn ⟨first.toList.map ρ⟩ ⟨captured.toList.map ρ⟩))) (.fail "makeFunc"):=rfl
@[go_sem] theorem JU {f:FuncId}:iD (.func f)=true:=rfl
def Mb (P:Program) (f:Value) (args:List Value):AP aD:=match f with
 | .func fn first captured=>gS P fn captured.toList (first.toList++args)
 | _ => .fail "call nil function"
@[go_sem] theorem TA {f:Operand} {as:Array Operand} {ts:Array TypeId}:jk P ρ ⟨d,.call ⟨.value f,as,ts⟩,ty,pos,af,g⟩=Mb P (ρ f) (as.toList.map ρ):=rfl
@[go_sem] theorem N8 {f:FuncId} {first captured:Array Value} {args:List Value}:Mb P (.func (.func f) first captured) args=ah P f ((first.toList++args)++captured.toList):=rfl
def Ga (P:Program) (b:Builtin) (ts:List TypeId) (args:List Value):AP aD:=(lC P b ts args).bind fun v => .pure (.value v)
@[go_sem] theorem Mc {b:Builtin} {as:Array Operand} {ts:Array TypeId}:jk P ρ ⟨d,.call ⟨.builtin b,as,ts⟩,ty,pos,af,g⟩=Ga P b ts.toList (as.toList.map ρ):=rfl
def TB (P:Program) (u:Option TypeDesc) (x:Value):AP aD:=(match u,x with
    |some .string,.string s=>(.pure (.int .i64 s.size):AP Value)
    |some (.array n _),_ => .pure (.int .i64 n)
    |some (.pointer arr),_=>match P.underlying arr with
     |some (.array n _) => .pure (.int .i64 n)
     | _ => .fail "len"
    |some (.slice _),.slice _ n _ => .pure (.int .i64 n)
    |some (.map _ _),x=>(mG x).bind fun es => .pure (.int .i64 es.length)
    | _,_ => .fail "len").bind fun v => .pure (.value v)
@[go_sem] theorem N9 {e:TypeId} {a:Option Addr} {n c:Nat}:TB P (some (.slice e)) (.slice a n c) = .pure (.value (.int .i64 n)):=rfl
@[go_sem] theorem TC {t:TypeId} {ts:List TypeId} {a:Option Addr} {n c:Nat}:Ga P .len (t::ts) [.slice a n c]=TB P (P.underlying t) (.slice a n c):=rfl
end ops
end Go.Am
