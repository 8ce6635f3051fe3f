/-
  The abstract machine, for proofs with variables: what each operation does, in a form that simp works out.
-/
import Derived.Test.YtfhmopghjoeamaaGreatAmX5
import Derived.Attr
set_option linter.unusedSimpArgs false
set_option linter.unusedVariables false
namespace Go.Am
attribute [go_sem] E2 zR zS B4 zT B7 E3 Ca xG
 IX u7 xF B_ tG ru E4 tH u9 IY
 qo nK E6 Cb Cc zU rS xH Cd zW Ce tJ qp E7 Cf Cg E8 zX Ch
 Fb Cp Cq zZ rV xJ Cr z6 Ct Fc z7 Fe Cv z8 Ff Aa Ab
 IZ I1
@[congr] theorem KX {z:Zx} {c:Code} {K:List KF} {m:Tm} {h:PT aj} {n:Nat}:ez z c K m h n=ez z c K m h n:=rfl
@[congr] theorem KY {z:Zx} {ops r:List Oper} {K:List KF} {m:Tm} {h:PT aj} {n:Nat}:Ea z ops r K m h n=Ea z ops r K m h n:=rfl
@[congr] theorem Nc {z:Zx} {e e':bw} {K:List KF} {m:Tm} {h:PT aj} {n:Nat} (he:e=e'):Rs z K e m h n=Rs z K e' m h n:=by rw[he]
@[congr] theorem KZ {z:Zx} {v v':Value} {a b:Code} {K:List KF} {m:Tm} {h:PT aj} {n:Nat} (hv:v=v'):tI z v a b K m h n=tI z v' a b K m h n:=by rw[hv]
@[congr] theorem K1 {z:Zx} {w w':Bool} {o:Oper} {ops r:List Oper} {K:List KF} {m:Tm} {h:PT aj} {n:Nat} (hw:w=w'):iF z w o ops r K m h n=iF z w' o ops r K m h n:=by rw[hw]
@[congr] theorem K3 {z:Zx} {p p':AP aE} {d:Option Nat} {ops r:List Oper} {K:List KF} {m:Tm} {h:PT aj} {n:Nat} (hp:p=p'):iC z p d ops r K m h n=iC z p' d ops r K m h n:=by rw[hp]
@[congr] theorem K5 {z:Zx} {b b':Option aj} {f:aj→AP aE} {d:Option Nat} {ops r:List Oper} {K:List KF} {m:Tm} {h:PT aj} {n:Nat} (hb:b=b'):MY z b f d ops r K m h n=MY z b' f d ops r K m h n:=by rw[hb]
@[congr] theorem K7 {z:Zx} {o o':Option aj} {id:Nat} {b:Option aj} {p:AP aE} {d:Option Nat} {ops r:List Oper} {K:List KF} {m:Tm} {h:PT aj} {n:Nat} (ho:o=o'):I2 z o id b p d ops r K m h n=I2 z o' id b p d ops r K m h n:=by rw[ho]
@[congr] theorem K9 {z:Zx} {s s':Option (AP Value)} {f:FuncId} {args:List Value} {d:Option Nat} {ops r:List Oper} {K:List KF} {m:Tm} {h:PT aj} {n:Nat} (hs:s=s'):I3 z s f args d ops r K m h n=I3 z s' f args d ops r K m h n:=by rw[hs]
@[congr] theorem K_ {z:Zx} {L:List (Nat×Nat)} {ops r:List Oper} {K:List KF} {m:Tm} {h:PT aj} {n:Nat} {fs:List bI}:Co z L ops r K m h n fs=Co z L ops r K m h n fs:=rfl
@[congr] theorem La {z:Zx} {L:List (Nat×Nat)} {w w':Bool} {o:Oper} {ops r:List Oper} {K:List KF} {m:Tm} {h:PT aj} {n:Nat} {fs:List bI} (hw:w=w'):iG z L w o ops r K m h n fs=iG z L w' o ops r K m h n fs:=by rw[hw]
@[congr] theorem Lb {z:Zx} {L:List (Nat×Nat)} {p p':AP aE} {d:Option Nat} {ops r:List Oper} {K:List KF} {m:Tm} {h:PT aj} {n lo:Nat} {rd wr:List Nat} {fs:List bI} (hp:p=p'):jZ z L p d ops r K m h n lo rd wr fs=jZ z L p' d ops r K m h n lo rd wr fs:=by rw[hp]
@[congr] theorem Ja {z:Zx} {L:List (Nat×Nat)} {b b':Option aj} {f:aj→AP aE} {d:Option Nat} {ops r:List Oper} {K:List KF} {m:Tm} {h:PT aj} {n lo:Nat} {rd wr:List Nat} {fs:List bI} (hb:b=b'):Cu z L b f d ops r K m h n lo rd wr fs=Cu z L b' f d ops r K m h n lo rd wr fs:=by rw[hb]
@[congr] theorem Jb {z:Zx} {L:List (Nat×Nat)} {o o':Option aj} {id:Nat} {b:Option aj} {p:AP aE} {d:Option Nat} {ops r:List Oper} {K:List KF} {m:Tm} {h:PT aj} {n lo:Nat} {rd wr:List Nat} {fs:List bI} (ho:o=o'):xK z L o id b p d ops r K m h n lo rd wr fs=xK z L o' id b p d ops r K m h n lo rd wr fs:=by rw[ho]
@[congr] theorem Jc {z:Zx} {L:List (Nat×Nat)} {s s':Option (AP Value)} {f:FuncId} {args:List Value} {d:Option Nat} {ops r:List Oper} {K:List KF} {m:Tm} {h:PT aj} {n lo:Nat} {rd wr:List Nat} {fs:List bI} (hs:s=s'):z_ z L s f args d ops r K m h n lo rd wr fs=z_ z L s' f args d ops r K m h n lo rd wr fs:=by rw[hs]
@[congr] theorem Nd {m:Tm} {i:Nat} {v:Value}:up m i v=up m i v:=rfl
@[go_sem] theorem Ug {m:Tm} {i j:Nat} {v:Value}:(up m i v).get j=if i=j then v else m.get j:=by
 by_cases h:i=j
 ·subst h;rw[if_pos rfl,va]
 ·rw[if_neg h,zV h]
@[go_sem] theorem Nf {m:Tm} {i:Nat}:m.eval (.tmp i)=m.get i:=rfl
@[go_sem] theorem eval_const {m:Tm} {v:Value}:m.eval (.const v)=v:=rfl
@[go_sem] theorem eval_func {m:Tm} {f:FuncId}:m.eval (.func f) = .func (.func f) ⟨[]⟩ ⟨[]⟩:=rfl
@[go_sem] theorem Ng {N:Nat} {L:List Value} {D:List Nat} {i:Nat}:(⟨N,PT.ofList .leaf 0 L,D⟩:Tm).get i=(L[i]?).getD gI:=by
 unfold Tm.get
 simp only[PT.aF]
 cases L[i]? <;> rfl
@[go_sem] theorem bS {h:PT aj} {i:Nat} {b:Option aj}:(h.set i b).get i=b:=PT.eH _ _ _
@[go_sem] theorem bf {h:PT aj} {i j:Nat} {b:Option aj} (hij:i≠j):(h.set i b).get j=h.get j:=PT.bJ _ _ hij
@[go_sem] theorem Jd {a b:Nat} (h:a≠b):Nat.beq a b=false:=by
 cases hb:Nat.beq a b with
 |false=>rfl
 |true=>exact absurd (Nat.eq_of_beq_eq_true hb) h
@[go_sem] theorem qt (a:Nat):Nat.beq a a=true:=by
 induction a with
 |zero=>rfl
 |succ n ih=>exact ih
@[go_sem] theorem iU {a b:Nat} (h:a≤b):Nat.ble a b=true:=Nat.ble_eq_true_of_le h
@[go_sem] theorem dr {a b:Nat} (h:b<a):Nat.ble a b=false:=by
 cases hb:Nat.ble a b with
 |false=>rfl
 |true=>exact absurd (Nat.le_of_ble_eq_true hb) (by omega)
@[go_sem] theorem Nh {a b:Nat} (h:a<b):Nat.blt a b=true:=Nat.ble_eq_true_of_le h
@[go_sem] theorem Ad {a b:Nat} (h:b≤a):Nat.blt a b=false:=dr (by omega)
@[go_sem] theorem Lc {k:IntKind} {i:Int} (h:0≤i):asNat (.int k i)=some i.toNat:=by
 obtain⟨n,rfl⟩:=Int.eq_ofNat_of_zero_le h
 rfl
@[go_sem] theorem Ld {k:IntKind} {n:Nat}:asNat (.int k (n:Int))=some n:=rfl
@[go_sem] theorem Le (n:Nat):(n:Int).toNat=n:=rfl
@[go_sem] theorem Ni {n:Nat} {k:IntKind} {i:Int}:flat n (.int k i)=true:=by cases n<;>rfl
@[go_sem] theorem Lf {n:Nat} {b:Bool}:flat n (.bool b)=true:=by cases n<;>rfl
@[go_sem] theorem Je {i:Nat}:a_ (.tmp i)=true:=rfl
@[go_sem] theorem Hg {i:Nat}:a_ (.func i)=true:=rfl
@[go_sem] theorem Jf {k:IntKind} {i:Int}:a_ (.const (.int k i))=true:=rfl
@[go_sem] theorem Hh {b:Bool}:a_ (.const (.bool b))=true:=rfl
@[go_sem] theorem Eb:a_ (.const (.pointer none))=true:=rfl
@[go_sem] theorem AZ {n c:Nat}:a_ (.const (.slice none n c))=true:=rfl
@[go_sem] theorem Jg {s:ByteArray}:a_ (.const (.string s))=true:=rfl
@[go_sem] theorem Ec:a_ (.const (.map none))=true:=rfl
@[go_sem] theorem Cz:a_ (.const .nilFunc)=true:=rfl
@[go_sem] theorem A0:a_ (.const .nilIface)=true:=rfl
@[go_sem] theorem Jh {l:Array Value}:a_ (.const (.agg l))=l.toList.all (flat 3):=rfl
@[go_sem] theorem Fi {ops:List Oper} {m:Tm} {d:Option Tmp} {op:Op} {t:TypeId} {pos:String} {af:Array Edge}:bU ops m ⟨d,op,t,pos,af,none⟩=true:=rfl
def tM (v:Option Value) (want:Bool):Bool:=match v with
 |some (.bool b)=>b==want
 | _=>false
def nN (ops:List Oper) (j:Nat):Option Nat:=match ops[j]? with
 |some o=>o.dst
 |none=>none
@[go_sem] theorem Fj {ops:List Oper} {m:Tm} {d:Option Tmp} {op:Op} {t:TypeId} {pos:String} {af:Array Edge} {j:Nat} {want:Bool}:
  bU ops m ⟨d,op,t,pos,af,some (j,want)⟩=tM ((nN ops j).map m.get) want:=by
 simp only[bU,fF,tM,nN]
 cases ops[j]? with
 |none=>rfl
 |some o=>
  simp only
  cases o.dst with
  |none=>rfl
  |some d=>simp only[Option.map_some];cases m.get d<;>rfl
@[go_sem] theorem Hj {b:Bool}:tM (some (.bool b)) true=b:=by cases b<;>rfl
@[go_sem] theorem Fk {b:Bool}:tM (some (.bool b)) false = !b:=by cases b<;>rfl
@[go_sem] theorem Hl {o:Oper} {l:List Oper}:nN (o::l) 0=o.dst:=rfl
@[go_sem] theorem Ho {o:Oper} {l:List Oper} {j:Nat}:nN (o::l) (j+1)=nN l j:=by simp[nN]
theorem Fl {z:Zx} {o:Oper} {ops r:List Oper} {K:List KF} {m:Tm} {h:PT aj} {n:Nat} {p:Prop} [Decidable p] (h1:p→iF z true o ops r K m h n) (h2: ¬ p→iF z false o ops r K m h n):iF z (decide p) o ops r K m h n:=by
 by_cases hp:p
 ·simpa [hp] using h1 hp
 ·simpa [hp] using h2 hp
theorem Fm {z:Zx} {L:List (Nat×Nat)} {o:Oper} {ops r:List Oper} {K:List KF} {m:Tm} {h:PT aj} {n:Nat} {fs:List bI} {p:Prop} [Decidable p] (h1:p→iG z L true o ops r K m h n fs) (h2: ¬ p→iG z L false o ops r K m h n fs):iG z L (decide p) o ops r K m h n fs:=by
 by_cases hp:p
 ·simpa [hp] using h1 hp
 ·simpa [hp] using h2 hp
theorem cN (L:List Value):∀ (k off:Nat),aQ (PT.ofList .leaf 0 L) off k=cond (Nat.ble (off+k) L.length||Nat.beq k 0) (some ((L.drop off).take k)) none
 |0,off=>by simp[aQ]
 |k+1,off=>by
  rw[aQ,PT.aF,show Nat.succ off=off+1 from rfl,cN L k (off+1)]
  by_cases h1:off<L.length
  ·rw[List.getElem?_eq_getElem h1]
   simp only
   by_cases h2:off+(k+1)≤L.length
   ·rw[iU h2,iU (show off+1+k≤L.length by omega)]
    simp only[Bool.true_or,cond_true]
    rw[List.drop_eq_getElem_cons h1,List.take_succ_cons]
   ·rw[dr (show L.length<off+(k+1) by omega),dr (show L.length<off+1+k by omega)]
    have:Nat.beq k 0=false:=Jd (by omega)
    simp[this,show Nat.beq (k+1) 0=false from rfl]
  ·rw[List.getElem?_eq_none (by omega),dr (show L.length<off+(k+1) by omega)]
   simp[show Nat.beq (k+1) 0=false from rfl]
def qu:List Value→Nat→List Value→List Value
 |L,_,[]=>L
 |L,off,v::vs=>qu (L.set off v) (off+1) vs
theorem vi:∀ (vs L:List Value) (off:Nat),(qu L off vs).length=L.length
 | [],L,off=>rfl
 |v::vs,L,off=>by rw[qu,vi vs];simp
theorem gO:∀ (vs L:List Value) (off:Nat),bG (PT.ofList .leaf 0 L) off vs=cond ((Nat.ble (off+vs.length) L.length||vs.isEmpty)&&vs.all br) (some (PT.ofList .leaf 0 (qu L off vs))) none
 | [],L,off=>by simp[bG,qu]
 |v::vs,L,off=>by
  rw[bG,PT.aF]
  by_cases h1:off<L.length
  ·rw[List.getElem?_eq_getElem h1]
   simp only
   cases hv:br v with
   |false=>simp[hv]
   |true=>
    simp only[cond_true,List.all_cons,hv,Bool.true_and,List.isEmpty_cons,Bool.or_false,List.length_cons]
    rw[kF _ _ _ h1,show Nat.succ off=off+1 from rfl,gO vs (L.set off v) (off+1)]
    simp only[List.length_set]
    by_cases h2:off+(vs.length+1)≤L.length
    ·rw[iU h2,iU (show off+1+vs.length≤L.length by omega)];rfl
    ·rw[dr (show L.length<off+(vs.length+1) by omega),dr (show L.length<off+1+vs.length by omega)]
     cases vs with
     |nil=>simp at h2;omega
     |cons x xs=>rfl
  ·rw[List.getElem?_eq_none (by omega)]
   have:Nat.ble (off+(v::vs).length) L.length=false:=dr (by simp;omega)
   rw[this];rfl
@[go_sem] theorem Nj {L:List Value} {off:Nat}:qu L off []=L:=rfl
@[go_sem] theorem Nk {L:List Value} {off:Nat} {v:Value}:qu L off [v]=L.set off v:=rfl
@[go_sem] theorem Lg {L vs:List Value} {off:Nat} {v:Value}:qu L off (v::vs)=qu (L.set off v) (off+1) vs:=rfl
def cw (P:Program) (t:TypeId):Option Nat:=(P.info? t).map (·.size)
def cB (P:Program) (t:TypeId):Option Bool:=(P.underlying t).map isAgg
def dK (P:Program) (t:TypeId):Option (List Value):=(zeroOf P t).map (·.cells.toList)
def cg (P:Program) (s:TypeId) (f:Nat):Option (Nat×Nat):=
 match P.underlying s with
 |some (.struct fs)=>match fs.toList[f]? with
  |some fd=>(P.info? fd.type).map fun i=>(fd.offset,i.size)
  |none=>none
 | _=>none
def cj (P:Program) (s:TypeId) (f:Nat):Option (Nat×Nat×Bool):=
 match P.underlying s with
 |some (.struct fs)=>match fs.toList[f]? with
  |some fd=>match P.info? fd.type,P.underlying fd.type with
   |some i,some d=>some (fd.offset,i.size,isAgg d)
   | _,_=>none
  |none=>none
 | _=>none
def yQ (P:Program) (t:TypeId):Option (Option Nat×Nat):=
 match P.underlying t with
 |some (.array n e)=>(P.info? e).map fun i=>(some n,i.size)
 |some (.slice e)=>(P.info? e).map fun i=>(none,i.size)
 | _=>none
section ops
variable {P:Program} {ρ:Operand→Value} {d:Option Tmp} {ty:TypeId} {pos:String} {af:Array Edge} {g:Option (Nat×Bool)}
@[go_sem] theorem CA {e:TypeId}:(Op.alloc e).operands=#[]:=rfl
@[go_sem] theorem Ed {x:Operand}:(Op.move x).operands=#[x]:=rfl
@[go_sem] theorem A2 {x:Operand}:(Op.assign x).operands=#[x]:=rfl
@[go_sem] theorem Fo {t:TypeId} {x:Operand}:(Op.box t x).operands=#[x]:=rfl
@[go_sem] theorem Ee {t:TypeId} {x:Operand}:(Op.load t x).operands=#[x]:=rfl
@[go_sem] theorem yR {x:Operand}:(Op.nilCheck x).operands=#[x]:=rfl
@[go_sem] theorem Ef {o:UnOp} {t:TypeId} {x:Operand}:(Op.unOp o t x).operands=#[x]:=rfl
@[go_sem] theorem Ae {s t:TypeId} {x:Operand}:(Op.convert s t x).operands=#[x]:=rfl
@[go_sem] theorem tN {t:TypeId} {x:Operand}:(Op.makeInterface t x).operands=#[x]:=rfl
@[go_sem] theorem xO {t:TypeId} {x:Operand} {f:Nat}:(Op.fieldAddr t x f).operands=#[x]:=rfl
@[go_sem] theorem CB {t:TypeId} {x:Operand} {f:Nat}:(Op.field t x f).operands=#[x]:=rfl
@[go_sem] theorem CD {t:TypeId} {x:Operand}:(Op.range t x).operands=#[x]:=rfl
@[go_sem] theorem Eg {b:Bool} {x:Operand}:(Op.next x b).operands=#[x]:=rfl
@[go_sem] theorem CF {x:Operand}:(Op.entry x).operands=#[x]:=rfl
@[go_sem] theorem Af {x:Operand} {i:Nat}:(Op.extract x i).operands=#[x]:=rfl
@[go_sem] theorem Eh {a b c:Operand}:(Op.pick a b c).operands=#[a,b,c]:=rfl
@[go_sem] theorem CG {t:TypeId} {ps:Array (Nat×Operand)}:(Op.build t ps).operands=(ps.toList.map (·.2)).toArray:=rfl
@[go_sem] theorem wv {t:TypeId} {n:Nat} {ps:Array (Nat×Operand)}:(Op.buildSlice t n ps).operands=(ps.toList.map (·.2)).toArray:=rfl
@[go_sem] theorem CH {t:TypeId} {a v:Operand}:(Op.store t a v).operands=#[a,v]:=rfl
@[go_sem] theorem CJ {o:BinOp} {t:TypeId} {a v:Operand} {t':TypeId}:(Op.binOp o t a v t').operands=#[a,v]:=rfl
@[go_sem] theorem xP {t:TypeId} {a v:Operand}:(Op.makeSlice t a v).operands=#[a,v]:=rfl
@[go_sem] theorem xQ {t:TypeId} {a v:Operand}:(Op.indexAddr t a v).operands=#[a,v]:=rfl
@[go_sem] theorem CK {t:TypeId} {a v:Operand}:(Op.index t a v).operands=#[a,v]:=rfl
@[go_sem] theorem A3 {t:TypeId} {a v:Operand} {b:Bool}:(Op.lookup t a v b).operands=#[a,v]:=rfl
@[go_sem] theorem yS {f:Fn} {a v:Array Operand}:(Op.makeFunc f a v).operands=a++v:=rfl
@[go_sem] theorem Ag {t:TypeId} {r:Option Operand}:(Op.makeMap t r).operands=r.toArray:=rfl
@[go_sem] theorem CL {t:TypeId} {x:Operand} {l h m:Option Operand}:(Op.slice t x l h m).operands=#[x]++l.toArray++h.toArray++m.toArray:=rfl
@[go_sem] theorem xR {t:TypeId} {a b c:Operand}:(Op.mapUpdate t a b c).operands=#[a,b,c]:=rfl
@[go_sem] theorem A4 {t:TypeId} {a b c:Operand}:(Op.insert t a b c).operands=#[a,b,c]:=rfl
@[go_sem] theorem Ei {f:Operand} {as:Array Operand} {ts:Array TypeId}:(Op.call ⟨.value f,as,ts⟩).operands=(⟨.value f,as,ts⟩:Call).operands:=rfl
@[go_sem] theorem Ah {b:Builtin} {as:Array Operand} {ts:Array TypeId}:(Op.call ⟨.builtin b,as,ts⟩).operands=(⟨.builtin b,as,ts⟩:Call).operands:=rfl
@[go_sem] theorem Nl {x:Operand}:iE P ρ ⟨d,.move x,ty,pos,af,g⟩ = .pure (.value (ρ x)):=rfl
@[go_sem] theorem Ji {x:Operand}:iE P ρ ⟨d,.assign x,ty,pos,af,g⟩ = .pure (.value (ρ x)):=rfl
def Hp (c a b:Value):AP aE:=match c with
 | .bool t => .pure (.value (cond t a b))
 | _ => .fail "pick"
@[go_sem] theorem Nm {c a b:Operand}:iE P ρ ⟨d,.pick c a b,ty,pos,af,g⟩=Hp (ρ c) (ρ a) (ρ b):=rfl
@[go_sem] theorem Jj {t:Bool} {a b:Value}:Hp (.bool t) a b = .pure (.value (cond t a b)):=rfl
def oR (w:String) (o:Option Value):AP aE:=match o with
 |some v => .pure (.value v)
 |none => .fail w
@[go_sem] theorem Lh {w:String} {v:Value}:oR w (some v) = .pure (.value v):=rfl
@[go_sem] theorem bind_pure {α β:Type} {a:α} {f:α→AP β}:(AP.pure a).bind f=f a:=rfl
@[go_sem] theorem CM {α β:Type} {id:Nat} {k:aj→AP α} {f:α→AP β}:(AP.get id k).bind f = .get id fun b=>(k b).bind f:=rfl
@[go_sem] theorem Nn {α β:Type} {id:Nat} {b:aj} {k:AP α} {f:α→AP β}:(AP.set id b k).bind f = .set id b (k.bind f):=rfl
@[go_sem] theorem Li {α β:Type} {id:Nat} {k:AP α} {f:α→AP β}:(AP.kill id k).bind f = .kill id (k.bind f):=rfl
@[go_sem] theorem Np {α β:Type} {b:aj} {k:Nat→AP α} {f:α→AP β}:(AP.new b k).bind f = .new b fun i=>(k i).bind f:=rfl
def Nq (off:Nat):aj→AP aE
 | .cells c _=>oR "load" (c.get off)
 | _ => .fail "load"
def Nr (off s:Nat):aj→AP aE
 | .cells c _=>oR "load" ((aQ c off s).map fun l => .agg ⟨l⟩)
 | _ => .fail "load"
def yT (g:Option Bool) (s:Option Nat) (x:Value):AP aE:=match x,s,g with
 | .pointer (some a),some s,some g => .get a.block (cond g (Nr a.off s) (Nq a.off))
 | _,_,_ => .fail "load"
@[go_sem] theorem Ns {t:TypeId} {a:Operand}:iE P ρ ⟨d,.load t a,ty,pos,af,g⟩=yT (cB P t) (cw P t) (ρ a):=by
 show (eu P t (ρ a)).bind _=_
 unfold eu yT cB cw
 generalize ρ a=x
 cases x with
 |pointer p=>
  cases p with
  |none=>rfl
  |some a=>
   cases P.info? t with
   |none=>rfl
   |some i=>
    cases P.underlying t with
    |none=>rfl
    |some u=>
     simp only[Option.map_some,AP.bind]
     congr 1
     funext b
     cases isAgg u<;>cases b<;>simp only[cond_true,cond_false,Nq,Nr]<;>first |rfl |skip
     ·rename_i c ro
      cases c.get a.off<;>rfl
     ·rename_i c ro
      cases aQ c a.off i.size<;>rfl
 | _=>rfl
@[go_sem] theorem P9 {s b off:Nat} {sp:Option Nat}:yT (some false) (some s) (.pointer (some ⟨b,off,sp⟩)) = .get b (Nq off):=rfl
@[go_sem] theorem P_ {s b off:Nat} {sp:Option Nat}:yT (some true) (some s) (.pointer (some ⟨b,off,sp⟩)) = .get b (Nr off s):=rfl
@[go_sem] theorem Qa {L:List Value} {ro:Bool} {off:Nat}:Nq off (.cells (PT.ofList .leaf 0 L) ro)=oR "load" L[off]? := by simp[Nq,PT.aF]
@[go_sem] theorem Qb {L:List Value} {ro:Bool} {off s:Nat}:Nr off s (.cells (PT.ofList .leaf 0 L) ro)=cond (Nat.ble (off+s) L.length||Nat.beq s 0) (.pure (.value (.agg ⟨(L.drop off).take s⟩))) (.fail "load"):=by
 simp only[Nr,cN]
 cases (Nat.ble (off+s) L.length||Nat.beq s 0)<;>rfl
def Nt (b off:Nat) (vs:List Value):aj→AP aE
 | .cells c false=>match bG c off vs with
  |some c' => .set b (.cells c' false) (.pure .skip)
  |none => .fail "store"
 | _ => .fail "store"
def xS (s:Option Nat) (x:Value) (vs:List Value):AP aE:=match x,s with
 | .pointer (some a),some s=>cond (Nat.beq vs.length s) (.get a.block (Nt a.block a.off vs)) (.fail "store")
 | _,_ => .fail "store"
@[go_sem] theorem Lj {t:TypeId} {a x:Operand}:iE P ρ ⟨d,.store t a x,ty,pos,af,g⟩=xS (cw P t) (ρ a) (ρ x).cells.toList:=by
 show (pE P t (ρ a) (ρ x)).bind _=_
 unfold pE xS cw
 generalize ρ a=y
 cases y with
 |pointer p=>
  cases p with
  |none=>rfl
  |some a=>
   cases P.info? t with
   |none=>rfl
   |some i=>
    simp only[Option.map_some]
    cases Nat.beq (ρ x).cells.toList.length i.size with
    |false=>rfl
    |true=>
     simp only[cond_true,AP.bind]
     congr 1
     funext b
     cases b with
     |cells c ro=>cases ro with
      |true=>rfl
      |false=>simp only[Nt];cases bG c a.off (ρ x).cells.toList<;>rfl
     | _=>rfl
 | _=>rfl
@[go_sem] theorem Jk {s b off:Nat} {sp:Option Nat} {vs:List Value}:xS (some s) (.pointer (some ⟨b,off,sp⟩)) vs=cond (Nat.beq vs.length s) (.get b (Nt b off vs)) (.fail "store"):=rfl
@[go_sem] theorem Qc {L vs:List Value} {b off:Nat}:Nt b off vs (.cells (PT.ofList .leaf 0 L) false)=cond ((Nat.ble (off+vs.length) L.length||vs.isEmpty)&&vs.all br) (.set b (.cells (PT.ofList .leaf 0 (qu L off vs)) false) (.pure .skip)) (.fail "store"):=by
 simp only[Nt,gO]
 cases ((Nat.ble (off+vs.length) L.length||vs.isEmpty)&&vs.all br)<;>rfl
@[go_sem] theorem Ll {k:IntKind} {n:Int}:(Value.int k n).cells=#[.int k n]:=rfl
@[go_sem] theorem Jl {b:Bool}:(Value.bool b).cells=#[.bool b]:=rfl
@[go_sem] theorem Lm {a:Option Addr}:(Value.pointer a).cells=#[.pointer a]:=rfl
@[go_sem] theorem Hq {a:Option Addr} {n c:Nat}:(Value.slice a n c).cells=#[.slice a n c]:=rfl
@[go_sem] theorem Ln {a:Option Nat}:(Value.map a).cells=#[.map a]:=rfl
@[go_sem] theorem Fp {s:ByteArray}:(Value.string s).cells=#[.string s]:=rfl
@[go_sem] theorem Jm {f:Fn} {x y:Array Value}:(Value.func f x y).cells=#[.func f x y]:=rfl
@[go_sem] theorem Ej:Value.nilFunc.cells=#[.nilFunc]:=rfl
@[go_sem] theorem Hr {t:TypeId} {v:Value}:(Value.iface t v).cells=#[.iface t v]:=rfl
@[go_sem] theorem CN:Value.nilIface.cells=#[.nilIface]:=rfl
@[go_sem] theorem Lp {l:Array Value}:(Value.agg l).cells=l:=rfl
@[go_sem] theorem Qd {k:IntKind} {n:Int}:br (Value.int k n)=true:=rfl
@[go_sem] theorem Nu {b:Bool}:br (Value.bool b)=true:=rfl
@[go_sem] theorem Qe {a:Option Addr}:br (Value.pointer a)=true:=rfl
@[go_sem] theorem Lq {a:Option Addr} {n c:Nat}:br (Value.slice a n c)=true:=rfl
@[go_sem] theorem Qf {a:Option Nat}:br (Value.map a)=true:=rfl
@[go_sem] theorem Jn {s:ByteArray}:br (Value.string s)=true:=rfl
@[go_sem] theorem Nv {f:Fn} {x y:Array Value}:br (Value.func f x y)=true:=rfl
@[go_sem] theorem Hs:br Value.nilFunc=true:=rfl
@[go_sem] theorem Lr {t:TypeId} {v:Value}:br (Value.iface t v)=true:=rfl
@[go_sem] theorem Fq:br Value.nilIface=true:=rfl
@[go_sem] theorem Qg {t:TypeId} {x:Operand}:iE P ρ ⟨d,.box t x,ty,pos,af,g⟩ = .new (.cells (PT.ofList .leaf 0 (ρ x).cells.toList) false) fun id => .pure (.value (.pointer (some ⟨id,0,none⟩))):=rfl
def CO (z:Option (List Value)):AP aE:=match z with
 |some l => .new (.cells (PT.ofList .leaf 0 l) false) fun id => .pure (.value (.pointer (some ⟨id,0,none⟩)))
 |none => .fail "alloc"
@[go_sem] theorem Ls {t:TypeId}:iE P ρ ⟨d,.alloc t,ty,pos,af,g⟩=CO (dK P t):=by
 show (pF P t).bind _=_
 unfold pF dK
 cases zeroOf P t<;>rfl
@[go_sem] theorem Ht {l:List Value}:CO (some l) = .new (.cells (PT.ofList .leaf 0 l) false) fun id => .pure (.value (.pointer (some ⟨id,0,none⟩))):=rfl
def Uh (f:Option (Nat×Nat)) (x:Value):AP aE:=match x,f with
 | .pointer (some a),some (o,s)=>cond (Nat.beq s 0) (.fail "fieldAddr") (.pure (.value (.pointer (some (iy a o)))))
 | _,_ => .fail "fieldAddr"
@[go_sem] theorem Ek {t:TypeId} {x:Operand} {f:Nat}:iE P ρ ⟨d,.fieldAddr t x f,ty,pos,af,g⟩=Uh (cg P t f) (ρ x):=by
 show (gC P t (ρ x) f).bind _=_
 unfold gC Uh cg
 generalize ρ x=y
 cases y with
 |pointer p=>
  cases p with
  |none=>rfl
  |some a=>
   cases P.underlying t with
   |none=>rfl
   |some u=>
    cases u with
    |struct fs=>
     simp only
     cases fs.toList[f]? with
     |none=>rfl
     |some fd=>
      simp only
      cases P.info? fd.type with
      |none=>rfl
      |some i=>simp only[Option.map_some];cases Nat.beq i.size 0<;>rfl
    | _=>rfl
 | _=>rfl
@[go_sem] theorem Qh {b off:Nat} {sp:Option Nat} {o s:Nat}:Uh (some (o,s)) (.pointer (some ⟨b,off,sp⟩))=cond (Nat.beq s 0) (.fail "fieldAddr") (.pure (.value (.pointer (some ⟨b,off+o,none⟩)))):=rfl
def lp (cs:List Value) (off s:Nat) (agg:Bool):Option Value:=cond agg (some (.agg ⟨(cs.drop off).take s⟩)) cs[off]?
@[go_sem] theorem Jo {cs:List Value} {off s:Nat}:lp cs off s true=some (.agg ⟨(cs.drop off).take s⟩):=rfl
@[go_sem] theorem Hu {cs:List Value} {off s:Nat}:lp cs off s false=cs[off]? := rfl
def Ui (f:Option (Nat×Nat×Bool)) (x:Value):AP aE:=match x,f with
 | .agg cs,some (o,s,g)=>oR "field" (lp cs.toList o s g)
 | _,_ => .fail "field"
theorem vk {t:TypeId} {cs:List Value} {off:Nat}:gW P t cs off=match P.info? t,P.underlying t with |some i,some u=>lp cs off i.size (isAgg u) | _,_=>none:=by
 unfold gW
 cases P.info? t with
 |none=>rfl
 |some i=>cases P.underlying t with
  |none=>rfl
  |some u=>simp only[lp]
@[go_sem] theorem Lt {t:TypeId} {x:Operand} {f:Nat}:iE P ρ ⟨d,.field t x f,ty,pos,af,g⟩=Ui (cj P t f) (ρ x):=by
 show (pH P t (ρ x) f).bind _=_
 unfold pH Ui cj
 generalize ρ x=y
 cases y with
 |agg cs=>
  cases P.underlying t with
  |none=>rfl
  |some u=>
   cases u with
   |struct fs=>
    simp only
    cases fs.toList[f]? with
    |none=>rfl
    |some fd=>
     simp only[vk]
     cases P.info? fd.type with
     |none=>rfl
     |some i=>
      cases P.underlying fd.type with
      |none=>rfl
      |some u=>
       simp only[AP.opt]
       cases lp cs.toList fd.offset i.size (isAgg u)<;>rfl
   | _=>rfl
 | _=>rfl
@[go_sem] theorem Qi {cs:Array Value} {o s:Nat} {b:Bool}:Ui (some (o,s,b)) (.agg cs)=oR "field" (lp cs.toList o s b):=rfl
def Qj (k:Option (Option Nat×Nat)) (x:Value) (i:Option Nat):AP aE:=match k,x,i with
 |some (some len,s),.pointer (some a),some n=>cond (Nat.blt n len) (.pure (.value (.pointer (some (iy a (n*s)))))) (.fail "indexAddr")
 |some (none,s),.slice (some a) len _,some n=>cond (Nat.blt n len) (.pure (.value (.pointer (some (iy a (n*s)))))) (.fail "indexAddr")
 | _,_,_ => .fail "indexAddr"
@[go_sem] theorem El {t:TypeId} {x i:Operand}:iE P ρ ⟨d,.indexAddr t x i,ty,pos,af,g⟩=Qj (yQ P t) (ρ x) (asNat (ρ i)):=by
 show (gD P t (ρ x) (ρ i)).bind _=_
 unfold gD Qj yQ
 generalize ρ x=y
 generalize asNat (ρ i)=j
 cases hu:P.underlying t with
 |none=>rfl
 |some u=>
  cases u with
  |array len e=>
   cases y with
   |pointer p=>cases p with
    |none=>cases j<;>dsimp only<;>cases P.info? e<;>rfl
    |some a=>cases j with
     |none=>dsimp only;cases P.info? e<;>rfl
     |some n=>
      dsimp only
      cases P.info? e with
      |none=>rfl
      |some i=>simp only[Option.map_some];cases Nat.blt n len<;>rfl
   | _=>dsimp only;cases P.info? e<;>rfl
  |slice e=>
   cases y with
   |slice p len c=>cases p with
    |none=>cases j<;>dsimp only<;>cases P.info? e<;>rfl
    |some a=>cases j with
     |none=>dsimp only;cases P.info? e<;>rfl
     |some n=>
      dsimp only
      cases P.info? e with
      |none=>rfl
      |some i=>simp only[Option.map_some];cases Nat.blt n len<;>rfl
   | _=>dsimp only;cases P.info? e<;>rfl
  | _=>rfl
@[go_sem] theorem Qk {len s b off n:Nat} {sp:Option Nat}:Qj (some (some len,s)) (.pointer (some ⟨b,off,sp⟩)) (some n)=cond (Nat.blt n len) (.pure (.value (.pointer (some ⟨b,off+n*s,none⟩)))) (.fail "indexAddr"):=rfl
@[go_sem] theorem Lu {len c s b off n:Nat} {sp:Option Nat}:Qj (some (none,s)) (.slice (some ⟨b,off,sp⟩) len c) (some n)=cond (Nat.blt n len) (.pure (.value (.pointer (some ⟨b,off+n*s,none⟩)))) (.fail "indexAddr"):=rfl
def Ql (k:Option (Nat×Nat×Bool)) (x:Value) (i:Option Nat):AP aE:=match k,x,i with
 |some (len,s,b),.agg cs,some n=>cond (Nat.blt n len) (oR "index" (lp cs.toList (n*s) s b)) (.fail "index")
 |none,.string s,some n=>oR "index" (s.data.toList[n]?.map fun b => .int .u8 b.toNat)
 | _,_,_ => .fail "index"
def Nw (P:Program) (t:TypeId):Option (Nat×Nat×Bool):=
 match P.underlying t with
 |some (.array n e)=>match P.info? e,P.underlying e with
  |some i,some u=>some (n,i.size,isAgg u)
  | _,_=>none
 | _=>none
theorem xT {t:TypeId} {x i:Operand} {cs:Array Value} (hx:ρ x = .agg cs):iE P ρ ⟨d,.index t x i,ty,pos,af,g⟩=Ql (Nw P t) (.agg cs) (asNat (ρ i)):=by
 show (ny P t (ρ x) (ρ i)).bind _=_
 rw[hx]
 unfold ny Ql Nw
 generalize asNat (ρ i)=j
 cases hu:P.underlying t with
 |none=>rfl
 |some u=>
  cases u with
  |array len e=>
   cases j with
   |none=>simp only;cases P.info? e with
    |none=>rfl
    |some i=>cases P.underlying e<;>rfl
   |some n=>
    simp only[vk]
    cases P.info? e with
    |none=>rfl
    |some i=>
     simp only
     cases P.underlying e with
     |none=>cases Nat.blt n len<;>rfl
     |some u=>simp only;cases Nat.blt n len with
      |false=>rfl
      |true=>simp only[cond_true];cases lp cs.toList (n*i.size) i.size (isAgg u)<;>rfl
  |string=>cases j<;>rfl
  | _=>rfl
def CP (P:Program) (t:TypeId) (x i:Value):AP aE:=(ny P t x i).bind fun v => .pure (.value v)
@[go_sem] theorem Lv {t:TypeId} {x i:Operand}:iE P ρ ⟨d,.index t x i,ty,pos,af,g⟩=CP P t (ρ x) (ρ i):=rfl
@[go_sem] theorem Jp {t:TypeId} {i:Value} {cs:Array Value}:CP P t (.agg cs) i=Ql (Nw P t) (.agg cs) (asNat i):=
 xT (ρ:=fun o=>match o with | .tmp 0 => .agg cs | _=>i) (x := .tmp 0) (i := .tmp 1) (d:=none) (ty:=0) (pos := "") (af:=#[]) (g:=none) rfl
@[go_sem] theorem Qm {len s n:Nat} {b:Bool} {cs:Array Value}:Ql (some (len,s,b)) (.agg cs) (some n)=cond (Nat.blt n len) (oR "index" (lp cs.toList (n*s) s b)) (.fail "index"):=rfl
def cH (P:Program) (o:BinOp) (t:TypeId) (cx cy:Bool) (x y:Value):AP aE:=(eC P o t cx cy x y).bind fun v => .pure (.value v)
@[go_sem] theorem Lw {o:BinOp} {t t':TypeId} {x y:Operand}:iE P ρ ⟨d,.binOp o t x y t',ty,pos,af,g⟩=cH P o t (isConst x) (isConst y) (ρ x) (ρ y):=rfl
section
variable {t:TypeId} {cx cy:Bool} {k k':IntKind} {a b:Int}
@[go_sem] theorem Nz:cH P .add t cx cy (.int k a) (.int k b) = .pure (.value (.int k (k.wrap (a+b)))):=by show AP.bind (ite (k=k) _ _) _=_;rw[if_pos rfl];rfl
@[go_sem] theorem NA:cH P .sub t cx cy (.int k a) (.int k b) = .pure (.value (.int k (k.wrap (a-b)))):=by show AP.bind (ite (k=k) _ _) _=_;rw[if_pos rfl];rfl
@[go_sem] theorem NB:cH P .mul t cx cy (.int k a) (.int k b) = .pure (.value (.int k (k.wrap (a*b)))):=by show AP.bind (ite (k=k) _ _) _=_;rw[if_pos rfl];rfl
@[go_sem] theorem NC:cH P .quo t cx cy (.int k a) (.int k b)=cond (decide (b=0)) (.fail "intOp") (.pure (.value (.int k (k.wrap (a.tdiv b))))):=by
 show AP.bind (ite (k=k) _ _) _=_
 rw[if_pos rfl]
 by_cases h:b=0<;>simp[intOp,h,AP.opt,AP.bind]
@[go_sem] theorem ND:cH P .rem t cx cy (.int k a) (.int k b)=cond (decide (b=0)) (.fail "intOp") (.pure (.value (.int k (a.tmod b)))):=by
 show AP.bind (ite (k=k) _ _) _=_
 rw[if_pos rfl]
 by_cases h:b=0<;>simp[intOp,h,AP.opt,AP.bind]
@[go_sem] theorem NF:cH P .and t cx cy (.int k a) (.int k b) = .pure (.value (.int k (k.wrap (BitVec.ofInt k.bits a&&&BitVec.ofInt k.bits b).toNat))):=by show AP.bind (ite (k=k) _ _) _=_;rw[if_pos rfl];rfl
@[go_sem] theorem Qn:cH P .or t cx cy (.int k a) (.int k b) = .pure (.value (.int k (k.wrap (BitVec.ofInt k.bits a|||BitVec.ofInt k.bits b).toNat))):=by show AP.bind (ite (k=k) _ _) _=_;rw[if_pos rfl];rfl
@[go_sem] theorem NG:cH P .eql t cx cy (.int k a) (.int k b) = .pure (.value (.bool (decide (a=b)))):=by show AP.bind (ite (k=k) _ _) _=_;rw[if_pos rfl];rfl
@[go_sem] theorem NH:cH P .neq t cx cy (.int k a) (.int k b) = .pure (.value (.bool (decide (a≠b)))):=by show AP.bind (ite (k=k) _ _) _=_;rw[if_pos rfl];exact congrArg (fun z=>AP.pure (aE.value (Value.bool z))) (by by_cases h:a=b<;>simp[h])
@[go_sem] theorem NI:cH P .lss t cx cy (.int k a) (.int k b) = .pure (.value (.bool (decide (a<b)))):=by show AP.bind (ite (k=k) _ _) _=_;rw[if_pos rfl];rfl
@[go_sem] theorem NJ:cH P .leq t cx cy (.int k a) (.int k b) = .pure (.value (.bool (decide (a≤b)))):=by show AP.bind (ite (k=k) _ _) _=_;rw[if_pos rfl];rfl
@[go_sem] theorem NK:cH P .gtr t cx cy (.int k a) (.int k b) = .pure (.value (.bool (decide (b<a)))):=by show AP.bind (ite (k=k) _ _) _=_;rw[if_pos rfl];rfl
@[go_sem] theorem NL:cH P .geq t cx cy (.int k a) (.int k b) = .pure (.value (.bool (decide (b≤a)))):=by show AP.bind (ite (k=k) _ _) _=_;rw[if_pos rfl];rfl
def CQ (u:Option TypeDesc) (neg:Bool) (x:Option Addr):AP aE:=match u with
 |some (.pointer _) => .pure (.value (.bool (x.isNone^^neg)))
 | _ => .fail "equal"
theorem qv {D:Nat} {x:Option Addr}:bE P (D+1) t (.pointer x) (.pointer none)=match P.underlying t with |some (.pointer _) => .pure x.isNone | _ => .fail "equal":=by
 unfold bE
 cases P.underlying t with
 |none=>cases x<;>rfl
 |some u=>cases u<;>cases x<;>rfl
@[go_sem] theorem Hv {x:Option Addr}:cH P .eql t cx cy (.pointer x) (.pointer none)=CQ (P.underlying t) false x:=by
 have:cH P .eql t cx cy (.pointer x) (.pointer none)=AP.bind ((bE P (11+1) t (.pointer x) (.pointer none)).bind fun b => .pure (.bool b)) fun v => .pure (.value v):=by
  simp only[cH,eC,bH,cond_true]
 rw[this,qv];unfold CQ
 cases P.underlying t with
 |none=>rfl
 |some u=>cases u<;>first |rfl | (cases x<;>rfl)
@[go_sem] theorem Hw {x:Option Addr}:cH P .neq t cx cy (.pointer x) (.pointer none)=CQ (P.underlying t) true x:=by
 have:cH P .neq t cx cy (.pointer x) (.pointer none)=AP.bind ((bE P (11+1) t (.pointer x) (.pointer none)).bind fun b => .pure (.bool !b)) fun v => .pure (.value v):=by
  simp only[cH,eC,bH,cond_true]
 rw[this,qv];unfold CQ
 cases P.underlying t with
 |none=>rfl
 |some u=>cases u<;>first |rfl | (cases x<;>rfl)
@[go_sem] theorem NN {e:TypeId} {neg:Bool} {x:Option Addr}:CQ (some (.pointer e)) neg x = .pure (.value (.bool (x.isNone^^neg))):=rfl
end
def Qo (o:UnOp) (x:Value):AP aE:=oR "unOp" (nu o x)
@[go_sem] theorem NP {o:UnOp} {t:TypeId} {x:Operand}:iE P ρ ⟨d,.unOp o t x,ty,pos,af,g⟩=Qo o (ρ x):=by
 show (AP.opt "unOp" (nu o (ρ x)) AP.pure).bind _=_
 unfold Qo
 cases nu o (ρ x)<;>rfl
@[go_sem] theorem Qp {k:IntKind} {a:Int}:Qo .neg (.int k a) = .pure (.value (.int k (k.wrap (0-a)))):=rfl
@[go_sem] theorem Qq {b:Bool}:Qo .not (.bool b) = .pure (.value (.bool !b)):=rfl
def Uj (s u:Option TypeDesc) (x:Value):AP aE:=match s,u,x with
 |some _,some (.int k),.int _ n => .pure (.value (.int k (k.wrap n)))
 |some _,some .string,.string s => .pure (.value (.string s))
 | _,_,_ => .fail "convert"
@[go_sem] theorem Hx {s t:TypeId} {x:Operand}:iE P ρ ⟨d,.convert s t x,ty,pos,af,g⟩=Uj (P.underlying s) (P.underlying t) (ρ x):=by
 show (jG P s t (ρ x)).bind _=_
 unfold jG Uj
 generalize ρ x=y
 cases P.underlying s with
 |none=>rfl
 |some a=>cases P.underlying t with
  |none=>rfl
  |some u=>cases u<;>cases y<;>rfl
@[go_sem] theorem Qr {u:TypeDesc} {k k':IntKind} {n:Int}:Uj (some u) (some (.int k)) (.int k' n) = .pure (.value (.int k (k.wrap n))):=rfl
def XX (x:Value):AP aE:=(ku x).bind fun v => .pure (.value v)
@[go_sem] theorem Ft {x:Operand}:iE P ρ ⟨d,.nilCheck x,ty,pos,af,g⟩=XX (ρ x):=rfl
@[go_sem] theorem Qs {a:Addr}:XX (.pointer (some a)) = .pure (.value (.pointer (some a))):=rfl
def Uk (x:Value) (i:Nat):AP aE:=match x with
 | .tuple vs=>oR "extract" (vs.toList[i]?)
 | _ => .fail "extract"
@[go_sem] theorem Hy {x:Operand} {i:Nat}:iE P ρ ⟨d,.extract x i,ty,pos,af,g⟩=Uk (ρ x) i:=by
 show (jI (ρ x) i).bind _=_
 unfold jI Uk
 cases ρ x<;>first |rfl |skip
 rename_i vs
 simp only[AP.opt]
 cases vs.toList[i]? <;> rfl
@[go_sem] theorem Lx {vs:Array Value} {i:Nat}:Uk (.tuple vs) i=oR "extract" (vs.toList[i]?):=rfl
@[go_sem] theorem Fu {fn:Fn} {first captured:Array Operand}:iE P ρ ⟨d,.makeFunc fn first captured,ty,pos,af,g⟩=cond (kB fn) (.pure (.value (.func fn ⟨first.toList.map ρ⟩ ⟨captured.toList.map ρ⟩))) (.fail "makeFunc"):=rfl
@[go_sem] theorem Fv {f:FuncId}:kB (.func f)=true:=rfl
def Hz (P:Program) (f:Value) (args:List Value):AP aE:=match f with
 | .func fn first captured=>f_ P fn captured.toList (first.toList++args)
 | _ => .fail "call nil function"
@[go_sem] theorem NQ {f:Operand} {as:Array Operand} {ts:Array TypeId}:iE P ρ ⟨d,.call ⟨.value f,as,ts⟩,ty,pos,af,g⟩=Hz P (ρ f) (as.toList.map ρ):=rfl
@[go_sem] theorem Jq {f:FuncId} {first captured:Array Value} {args:List Value}:Hz P (.func (.func f) first captured) args=ak P f ((first.toList++args)++captured.toList):=rfl
def vl (P:Program) (b:Builtin) (ts:List TypeId) (args:List Value):AP aE:=(jK P b ts args).bind fun v => .pure (.value v)
@[go_sem] theorem HA {b:Builtin} {as:Array Operand} {ts:Array TypeId}:iE P ρ ⟨d,.call ⟨.builtin b,as,ts⟩,ty,pos,af,g⟩=vl P b ts.toList (as.toList.map ρ):=rfl
def NR (P:Program) (u:Option TypeDesc) (x:Value):AP aE:=(match u,x with
    |some .string,.string s=>(.pure (.int .i64 s.size):AP Value)
    |some (.array n _),_ => .pure (.int .i64 n)
    |some (.pointer arr),_=>match P.underlying arr with
     |some (.array n _) => .pure (.int .i64 n)
     | _ => .fail "len"
    |some (.slice _),.slice _ n _ => .pure (.int .i64 n)
    |some (.map _ _),x=>(kC x).bind fun es => .pure (.int .i64 es.length)
    | _,_ => .fail "len").bind fun v => .pure (.value v)
@[go_sem] theorem Jr {e:TypeId} {a:Option Addr} {n c:Nat}:NR P (some (.slice e)) (.slice a n c) = .pure (.value (.int .i64 n)):=rfl
@[go_sem] theorem NS {t:TypeId} {ts:List TypeId} {a:Option Addr} {n c:Nat}:vl P .len (t::ts) [.slice a n c]=NR P (P.underlying t) (.slice a n c):=rfl
end ops
end Go.Am
