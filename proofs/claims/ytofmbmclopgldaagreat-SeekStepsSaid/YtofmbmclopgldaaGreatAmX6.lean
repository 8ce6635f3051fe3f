/-
A part.
-/
import Derived.Test.YtofmbmclopgldaaGreatAmX5
import Derived.Attr
set_option linter.all false
namespace Go.Am
attribute [go_sem] SN Ka Kc MY Ke MZ SP Na Gz
 Ym DI Gy M_ Bz zD SQ BA DJ Yn
 xA tW SU Nb Nc Kf Ac GD Nf Kh Ng BD xB SV Nh Ni SW Ki DN
 S_ Np Nq Kk Ae GG Nr Kl Ns Ii Af Ta Nu Km Tb Kn Ko
 Yo Yp
@[congr] theorem aaZ{z:Zx}{c:Code}{K:List KF}{m:Tm}{h:PT aj}{n:Nat}:iZ z c K m h n=iZ z c K m h n:=rfl
@[congr] theorem aa0{z:Zx}{ops r:List Oper}{K:List KF}{m:Tm}{h:PT aj}{n:Nat}:RA z ops r K m h n=RA z ops r K m h n:=rfl
@[congr] theorem adj{z:Zx}{e e':bp}{K:List KF}{m:Tm}{h:PT aj}{n:Nat}(he:e=e'):Rs z K e m h n=Rs z K e' m h n:=by rw[he]
@[congr] theorem aa1{z:Zx}{v v':Value}{a b:Code}{K:List KF}{m:Tm}{h:PT aj}{n:Nat}(hv:v=v'):DK z v a b K m h n=DK z v' a b K m h n:=by rw[hv]
@[congr] theorem aa2{z:Zx}{w w':Bool}{o:Oper}{ops r:List Oper}{K:List KF}{m:Tm}{h:PT aj}{n:Nat}(hw:w=w'):lQ z w o ops r K m h n=lQ z w' o ops r K m h n:=by rw[hw]
@[congr] theorem aa3{z:Zx}{p p':AP aG}{d:Option Nat}{ops r:List Oper}{K:List KF}{m:Tm}{h:PT aj}{n:Nat}(hp:p=p'):jZ z p d ops r K m h n=jZ z p' d ops r K m h n:=by rw[hp]
@[congr] theorem aa4{z:Zx}{b b':Option aj}{f:aj→AP aG}{d:Option Nat}{ops r:List Oper}{K:List KF}{m:Tm}{h:PT aj}{n:Nat}(hb:b=b'):EvL z b f d ops r K m h n=EvL z b' f d ops r K m h n:=by rw[hb]
@[congr] theorem aa5{z:Zx}{o o':Option aj}{id:Nat}{b:Option aj}{p:AP aG}{d:Option Nat}{ops r:List Oper}{K:List KF}{m:Tm}{h:PT aj}{n:Nat}(ho:o=o'):Yq z o id b p d ops r K m h n=Yq z o' id b p d ops r K m h n:=by rw[ho]
@[congr] theorem aa6{z:Zx}{s s':Option (AP Value)}{f:FuncId}{args:List Value}{d:Option Nat}{ops r:List Oper}{K:List KF}{m:Tm}{h:PT aj}{n:Nat}(hs:s=s'):V6 z s f args d ops r K m h n=V6 z s' f args d ops r K m h n:=by rw[hs]
@[congr] theorem aa7{z:Zx}{L:List (Nat×Nat)}{ops r:List Oper}{K:List KF}{m:Tm}{h:PT aj}{n:Nat}{fs:List bO}:Nn z L ops r K m h n fs=Nn z L ops r K m h n fs:=rfl
@[congr] theorem aa8{z:Zx}{L:List (Nat×Nat)}{w w':Bool}{o:Oper}{ops r:List Oper}{K:List KF}{m:Tm}{h:PT aj}{n:Nat}{fs:List bO}(hw:w=w'):lS z L w o ops r K m h n fs=lS z L w' o ops r K m h n fs:=by rw[hw]
@[congr] theorem aa9{z:Zx}{L:List (Nat×Nat)}{p p':AP aG}{d:Option Nat}{ops r:List Oper}{K:List KF}{m:Tm}{h:PT aj}{n lo:Nat}{rd wr:List Nat}{fs:List bO}(hp:p=p'):lD z L p d ops r K m h n lo rd wr fs=lD z L p' d ops r K m h n lo rd wr fs:=by rw[hp]
@[congr] theorem Yv{z:Zx}{L:List (Nat×Nat)}{b b':Option aj}{f:aj→AP aG}{d:Option Nat}{ops r:List Oper}{K:List KF}{m:Tm}{h:PT aj}{n lo:Nat}{rd wr:List Nat}{fs:List bO}(hb:b=b'):Nt z L b f d ops r K m h n lo rd wr fs=Nt z L b' f d ops r K m h n lo rd wr fs:=by rw[hb]
@[congr] theorem Yw{z:Zx}{L:List (Nat×Nat)}{o o':Option aj}{id:Nat}{b:Option aj}{p:AP aG}{d:Option Nat}{ops r:List Oper}{K:List KF}{m:Tm}{h:PT aj}{n lo:Nat}{rd wr:List Nat}{fs:List bO}(ho:o=o'):GH z L o id b p d ops r K m h n lo rd wr fs=GH z L o' id b p d ops r K m h n lo rd wr fs:=by rw[ho]
@[congr] theorem Yx{z:Zx}{L:List (Nat×Nat)}{s s':Option (AP Value)}{f:FuncId}{args:List Value}{d:Option Nat}{ops r:List Oper}{K:List KF}{m:Tm}{h:PT aj}{n lo:Nat}{rd wr:List Nat}{fs:List bO}(hs:s=s'):DQ z L s f args d ops r K m h n lo rd wr fs=DQ z L s' f args d ops r K m h n lo rd wr fs:=by rw[hs]
@[congr] theorem adk{m:Tm}{i:Nat}{v:Value}:up m i v=up m i v:=rfl
@[go_sem] theorem apu{m:Tm}{i j:Nat}{v:Value}:(up m i v).get j=if i=j then v else m.get j:=by
 by_cases h:i=j
 ·subst h;rw[if_pos rfl,DM]
 ·rw[if_neg h,Kg h]
@[go_sem] theorem adl{m:Tm}{i:Nat}:m.eval (.tmp i)=m.get i:=rfl
@[go_sem] theorem eval_const{m:Tm}{v:Value}:m.eval (.const v)=v:=rfl
@[go_sem] theorem eval_func{m:Tm}{f:FuncId}:m.eval (.func f) = .func (.func f) ⟨[]⟩ ⟨[]⟩:=rfl
@[go_sem] theorem adn{N:Nat}{L:List Value}{D:List Nat}{i:Nat}:(⟨N,PT.ofList .leaf 0 L,D⟩:Tm).get i=(L[i]?).getD dY:=by
 unfold Tm.get;simp only[PT.aQ];cases L[i]? <;> rfl
@[go_sem] theorem aI{h:PT aj}{i:Nat}{b:Option aj}:(h.set i b).get i=b:=PT.fN _ _ _
@[go_sem] theorem az{h:PT aj}{i j:Nat}{b:Option aj}(hij:i≠j):(h.set i b).get j=h.get j:=PT.cB _ _ hij
@[go_sem] theorem ND{a b:Nat}(h:a≠b):Nat.beq a b=false:=by
 cases hb:Nat.beq a b with
 |false=>rfl
 |true=>exact absurd (Nat.eq_of_beq_eq_true hb) h
@[go_sem] theorem oU(a:Nat):Nat.beq a a=true:=by
 induction a with
 |zero=>rfl
 |succ n ih=>exact ih
@[go_sem] theorem jd{a b:Nat}(h:a≤b):Nat.ble a b=true:=Nat.ble_eq_true_of_le h
@[go_sem] theorem fZ{a b:Nat}(h:b<a):Nat.ble a b=false:=by
 cases hb:Nat.ble a b with
 |false=>rfl
 |true=>exact absurd (Nat.le_of_ble_eq_true hb) qJ
@[go_sem] theorem ado{a b:Nat}(h:a<b):Nat.blt a b=true:=Nat.ble_eq_true_of_le h
@[go_sem] theorem Ks{a b:Nat}(h:b≤a):Nat.blt a b=false:=fZ qJ
@[go_sem] theorem aa_{k:IntKind}{i:Int}(h:0≤i):asNat (.int k i)=some i.toNat:=by
 obtain⟨n,rfl⟩:=Int.eq_ofNat_of_zero_le h;rfl
@[go_sem] theorem aa'{k:IntKind}{n:Nat}:asNat (.int k (n:Int))=some n:=rfl
@[go_sem] theorem abb(n:Nat):(n:Int).toNat=n:=rfl
@[go_sem] theorem adp{n:Nat}{k:IntKind}{i:Int}:flat n (.int k i)=true:=by cases n<;>rfl
@[go_sem] theorem abd{n:Nat}{b:Bool}:flat n (.bool b)=true:=by cases n<;>rfl
@[go_sem] theorem Yy{i:Nat}:bz (.tmp i)=true:=rfl
@[go_sem] theorem V9{i:Nat}:bz (.func i)=true:=rfl
@[go_sem] theorem Yz{k:IntKind}{i:Int}:bz (.const (.int k i))=true:=rfl
@[go_sem] theorem V_{b:Bool}:bz (.const (.bool b))=true:=rfl
@[go_sem] theorem RD:bz (.const (.pointer none))=true:=rfl
@[go_sem] theorem LV{n c:Nat}:bz (.const (.slice none n c))=true:=rfl
@[go_sem] theorem YA{s:ByteArray}:bz (.const (.string s))=true:=rfl
@[go_sem] theorem RE:bz (.const (.map none))=true:=rfl
@[go_sem] theorem NF:bz (.const .nilFunc)=true:=rfl
@[go_sem] theorem LW:bz (.const .nilIface)=true:=rfl
@[go_sem] theorem YB{l:Array Value}:bz (.const (.agg l))=l.toList.all (flat 3):=rfl
@[go_sem] theorem Td{ops:List Oper}{m:Tm}{d:Option Tmp}{op:Op}{t:TypeId}{pos:String}{af:Array Edge}:b_ ops m ⟨d,op,t,pos,af,none⟩=true:=rfl
def xF(v:Option Value)(want:Bool):Bool:=match v with
 |some (.bool b)=>b==want
 | _=>false
def t_(ops:List Oper)(j:Nat):Option Nat:=match ops[j]? with
 |some o=>o.dst
 |none=>none
@[go_sem] theorem Te{ops:List Oper}{m:Tm}{d:Option Tmp}{op:Op}{t:TypeId}{pos:String}{af:Array Edge}{j:Nat}{want:Bool}:
  b_ ops m ⟨d,op,t,pos,af,some (j,want)⟩=xF ((t_ ops j).map m.get) want:=by
 simp only[b_,ig,xF,t_];cases ops[j]? with
 |none=>rfl
 |some o=>
  simp only;cases o.dst with
  |none=>rfl
  |some d=>simp only[Option.map_some];cases m.get d<;>rfl
@[go_sem] theorem Wa{b:Bool}:xF (some (.bool b)) true=b:=by cases b<;>rfl
@[go_sem] theorem Tf{b:Bool}:xF (some (.bool b)) false = !b:=by cases b<;>rfl
@[go_sem] theorem Wb{o:Oper}{l:List Oper}:t_ (o::l) 0=o.dst:=rfl
@[go_sem] theorem Wc{o:Oper}{l:List Oper}{j:Nat}:t_ (o::l) (j+1)=t_ l j:=by simp[t_]
theorem Tg{z:Zx}{o:Oper}{ops r:List Oper}{K:List KF}{m:Tm}{h:PT aj}{n:Nat}{p:Prop}[Decidable p](h1:p→lQ z true o ops r K m h n)(h2: ¬ p→lQ z false o ops r K m h n):lQ z (decide p) o ops r K m h n:=by
 by_cases hp:p
 ·simpa [hp] using h1 hp
 ·simpa [hp] using h2 hp
theorem Ti{z:Zx}{L:List (Nat×Nat)}{o:Oper}{ops r:List Oper}{K:List KF}{m:Tm}{h:PT aj}{n:Nat}{fs:List bO}{p:Prop}[Decidable p](h1:p→lS z L true o ops r K m h n fs)(h2: ¬ p→lS z L false o ops r K m h n fs):lS z L (decide p) o ops r K m h n fs:=by
 by_cases hp:p
 ·simpa [hp] using h1 hp
 ·simpa [hp] using h2 hp
theorem dU(L:List Value):∀ (k off:Nat),aW (PT.ofList .leaf 0 L) off k=cond (Nat.ble (off+k) L.length||Nat.beq k 0) (some ((L.drop off).take k)) none
 |0,off=>by simp[aW]
 |k+1,off=>by
  rw[aW,PT.aQ,show Nat.succ off=off+1 from rfl,dU L k (off+1)];by_cases h1:off<L.length
  ·rw[List.getElem?_eq_getElem h1];simp only;by_cases h2:off+(k+1)≤L.length
   ·rw[jd h2,jd (show off+1+k≤L.length by omega)];simp only[Bool.true_or,cond_true];rw[List.drop_eq_getElem_cons h1,List.take_succ_cons]
   ·rw[fZ (show L.length<off+(k+1) by omega),fZ (show L.length<off+1+k by omega)];have:Nat.beq k 0=false:=ND qJ;simp[this,show Nat.beq (k+1) 0=false from rfl]
  ·rw[List.getElem?_eq_none qJ,fZ (show L.length<off+(k+1) by omega)];simp[show Nat.beq (k+1) 0=false from rfl]
def rj:List Value→Nat→List Value→List Value
 |L,_,[]=>L
 |L,off,v::vs=>rj (L.set off v) (off+1) vs
theorem DS:∀ (vs L:List Value) (off:Nat),(rj L off vs).length=L.length
 | [],L,off=>rfl
 |v::vs,L,off=>by rw[rj,DS vs];simp
theorem je:∀ (vs L:List Value) (off:Nat),bN (PT.ofList .leaf 0 L) off vs=cond ((Nat.ble (off+vs.length) L.length||vs.isEmpty)&&vs.all bw) (some (PT.ofList .leaf 0 (rj L off vs))) none
 | [],L,off=>by simp[bN,rj]
 |v::vs,L,off=>by
  rw[bN,PT.aQ];by_cases h1:off<L.length
  ·rw[List.getElem?_eq_getElem h1];simp only;cases hv:bw v with
   |false=>simp[hv]
   |true=>
    simp only[cond_true,List.all_cons,hv,Bool.true_and,List.isEmpty_cons,Bool.or_false,List.length_cons];rw[pY _ _ _ h1,show Nat.succ off=off+1 from rfl,je vs (L.set off v) (off+1)];simp only[List.length_set];by_cases h2:off+(vs.length+1)≤L.length
    ·rw[jd h2,jd (show off+1+vs.length≤L.length by omega)];rfl
    ·rw[fZ (show L.length<off+(vs.length+1) by omega),fZ (show L.length<off+1+vs.length by omega)];cases vs with
     |nil=>simp at h2;omega
     |cons x xs=>rfl
  ·rw[List.getElem?_eq_none qJ];have:Nat.ble (off+(v::vs).length) L.length=false:=fZ (by simp;omega);rw[this];rfl
@[go_sem] theorem adq{L:List Value}{off:Nat}:rj L off []=L:=rfl
@[go_sem] theorem ads{L:List Value}{off:Nat}{v:Value}:rj L off [v]=L.set off v:=rfl
@[go_sem] theorem abe{L vs:List Value}{off:Nat}{v:Value}:rj L off (v::vs)=rj (L.set off v) (off+1) vs:=rfl
def bX(P:Program)(t:TypeId):Option Nat:=(P.info? t).map (·.size)
def bY(P:Program)(t:TypeId):Option Bool:=(P.underlying t).map isAgg
def cX(P:Program)(t:TypeId):Option (List Value):=(zeroOf P t).map (·.cells.toList)
def bI(P:Program)(s:TypeId)(f:Nat):Option (Nat×Nat):=
 match P.underlying s with
 |some (.struct fs)=>match fs.toList[f]? with
  |some fd=>(P.info? fd.type).map fun i=>(fd.offset,i.size)
  |none=>none
 | _=>none
def bJ(P:Program)(s:TypeId)(f:Nat):Option (Nat×Nat×Bool):=
 match P.underlying s with
 |some (.struct fs)=>match fs.toList[f]? with
  |some fd=>match P.info? fd.type,P.underlying fd.type with
   |some i,some d=>some (fd.offset,i.size,isAgg d)
   | _,_=>none
  |none=>none
 | _=>none
def vV(P:Program)(t:TypeId):Option (Option Nat×Nat):=
 match P.underlying t with
 |some (.array n e)=>(P.info? e).map fun i=>(some n,i.size)
 |some (.slice e)=>(P.info? e).map fun i=>(none,i.size)
 | _=>none
section ops
variable {P:Program} {ρ:Operand→Value} {d:Option Tmp} {ty:TypeId} {pos:String} {af:Array Edge} {g:Option (Nat×Bool)}
@[go_sem] theorem NG{e:TypeId}:(Op.alloc e).operands=#[]:=rfl
@[go_sem] theorem RF{x:Operand}:(Op.move x).operands=#[x]:=rfl
@[go_sem] theorem LX{x:Operand}:(Op.assign x).operands=#[x]:=rfl
@[go_sem] theorem Tj{t:TypeId}{x:Operand}:(Op.box t x).operands=#[x]:=rfl
@[go_sem] theorem RG{t:TypeId}{x:Operand}:(Op.load t x).operands=#[x]:=rfl
@[go_sem] theorem Ik{x:Operand}:(Op.nilCheck x).operands=#[x]:=rfl
@[go_sem] theorem RH{o:UnOp}{t:TypeId}{x:Operand}:(Op.unOp o t x).operands=#[x]:=rfl
@[go_sem] theorem Kt{s t:TypeId}{x:Operand}:(Op.convert s t x).operands=#[x]:=rfl
@[go_sem] theorem BG{t:TypeId}{x:Operand}:(Op.makeInterface t x).operands=#[x]:=rfl
@[go_sem] theorem GJ{t:TypeId}{x:Operand}{f:Nat}:(Op.fieldAddr t x f).operands=#[x]:=rfl
@[go_sem] theorem NH{t:TypeId}{x:Operand}{f:Nat}:(Op.field t x f).operands=#[x]:=rfl
@[go_sem] theorem NI{t:TypeId}{x:Operand}:(Op.range t x).operands=#[x]:=rfl
@[go_sem] theorem RI{b:Bool}{x:Operand}:(Op.next x b).operands=#[x]:=rfl
@[go_sem] theorem NJ{x:Operand}:(Op.entry x).operands=#[x]:=rfl
@[go_sem] theorem Ku{x:Operand}{i:Nat}:(Op.extract x i).operands=#[x]:=rfl
@[go_sem] theorem RJ{a b c:Operand}:(Op.pick a b c).operands=#[a,b,c]:=rfl
@[go_sem] theorem NK{t:TypeId}{ps:Array (Nat×Operand)}:(Op.build t ps).operands=(ps.toList.map (·.2)).toArray:=rfl
@[go_sem] theorem Fv{t:TypeId}{n:Nat}{ps:Array (Nat×Operand)}:(Op.buildSlice t n ps).operands=(ps.toList.map (·.2)).toArray:=rfl
@[go_sem] theorem NL{t:TypeId}{a v:Operand}:(Op.store t a v).operands=#[a,v]:=rfl
@[go_sem] theorem NN{o:BinOp}{t:TypeId}{a v:Operand}{t':TypeId}:(Op.binOp o t a v t').operands=#[a,v]:=rfl
@[go_sem] theorem GK{t:TypeId}{a v:Operand}:(Op.makeSlice t a v).operands=#[a,v]:=rfl
@[go_sem] theorem GL{t:TypeId}{a v:Operand}:(Op.indexAddr t a v).operands=#[a,v]:=rfl
@[go_sem] theorem NP{t:TypeId}{a v:Operand}:(Op.index t a v).operands=#[a,v]:=rfl
@[go_sem] theorem LY{t:TypeId}{a v:Operand}{b:Bool}:(Op.lookup t a v b).operands=#[a,v]:=rfl
@[go_sem] theorem Il{f:Fn}{a v:Array Operand}:(Op.makeFunc f a v).operands=a++v:=rfl
@[go_sem] theorem Kv{t:TypeId}{r:Option Operand}:(Op.makeMap t r).operands=r.toArray:=rfl
@[go_sem] theorem NQ{t:TypeId}{x:Operand}{l h m:Option Operand}:(Op.slice t x l h m).operands=#[x]++l.toArray++h.toArray++m.toArray:=rfl
@[go_sem] theorem GM{t:TypeId}{a b c:Operand}:(Op.mapUpdate t a b c).operands=#[a,b,c]:=rfl
@[go_sem] theorem LZ{t:TypeId}{a b c:Operand}:(Op.insert t a b c).operands=#[a,b,c]:=rfl
@[go_sem] theorem RK{f:Operand}{as:Array Operand}{ts:Array TypeId}:(Op.call ⟨.value f,as,ts⟩).operands=(⟨.value f,as,ts⟩:Call).operands:=rfl
@[go_sem] theorem Kw{b:Builtin}{as:Array Operand}{ts:Array TypeId}:(Op.call ⟨.builtin b,as,ts⟩).operands=(⟨.builtin b,as,ts⟩:Call).operands:=rfl
@[go_sem] theorem adt{x:Operand}:k7 P ρ ⟨d,.move x,ty,pos,af,g⟩ = .pure (.value (ρ x)):=rfl
@[go_sem] theorem YC{x:Operand}:k7 P ρ ⟨d,.assign x,ty,pos,af,g⟩ = .pure (.value (ρ x)):=rfl
def Wd(c a b:Value):AP aG:=match c with
 | .bool t => .pure (.value (cond t a b))
 | _ => .fail "pick"
@[go_sem] theorem adu{c a b:Operand}:k7 P ρ ⟨d,.pick c a b,ty,pos,af,g⟩=Wd (ρ c) (ρ a) (ρ b):=rfl
@[go_sem] theorem YD{t:Bool}{a b:Value}:Wd (.bool t) a b = .pure (.value (cond t a b)):=rfl
def vF(w:String)(o:Option Value):AP aG:=match o with
 |some v => .pure (.value v)
 |none => .fail w
@[go_sem] theorem abf{w:String}{v:Value}:vF w (some v) = .pure (.value v):=rfl
@[go_sem] theorem bind_pure{α β:Type}{a:α}{f:α→AP β}:(AP.pure a).bind f=f a:=rfl
@[go_sem] theorem NR{α β:Type}{id:Nat}{k:aj→AP α}{f:α→AP β}:(AP.get id k).bind f = .get id fun b=>(k b).bind f:=rfl
@[go_sem] theorem adv{α β:Type}{id:Nat}{b:aj}{k:AP α}{f:α→AP β}:(AP.set id b k).bind f = .set id b (k.bind f):=rfl
@[go_sem] theorem abg{α β:Type}{id:Nat}{k:AP α}{f:α→AP β}:(AP.kill id k).bind f = .kill id (k.bind f):=rfl
@[go_sem] theorem adw{α β:Type}{b:aj}{k:Nat→AP α}{f:α→AP β}:(AP.new b k).bind f = .new b fun i=>(k i).bind f:=rfl
def ld1(off:Nat):aj→AP aG
 | .cells c _=>vF "load" (c.get off)
 | _ => .fail "load"
def ldN(off s:Nat):aj→AP aG
 | .cells c _=>vF "load" ((aW c off s).map fun l => .agg ⟨l⟩)
 | _ => .fail "load"
def Io(g:Option Bool)(s:Option Nat)(x:Value):AP aG:=match x,s,g with
 | .pointer (some a),some s,some g => .get a.block (cond g (ldN a.off s) (ld1 a.off))
 | _,_,_ => .fail "load"
@[go_sem] theorem adz{t:TypeId}{a:Operand}:k7 P ρ ⟨d,.load t a,ty,pos,af,g⟩=Io (bY P t) (bX P t) (ρ a):=by
 show (fG P t (ρ a)).bind _=_
 unfold fG Io bY bX;generalize ρ a=x;cases x with
 |pointer p=>
  cases p with
  |none=>rfl
  |some a=>
   cases P.info? t with
   |none=>rfl
   |some i=>
    cases P.underlying t with
    |none=>rfl
    |some u=>
     simp only[Option.map_some,AP.bind]
     congr 1
     funext b
     cases isAgg u<;>cases b<;>simp only[cond_true,cond_false,ld1,ldN]<;>first|rfl |skip
     ·rename_i c ro;cases c.get a.off<;>rfl
     ·rename_i c ro;cases aW c a.off i.size<;>rfl
 | _=>rfl
@[go_sem] theorem ahK{s b off:Nat}{sp:Option Nat}:Io (some false) (some s) (.pointer (some ⟨b,off,sp⟩)) = .get b (ld1 off):=rfl
@[go_sem] theorem ahL{s b off:Nat}{sp:Option Nat}:Io (some true) (some s) (.pointer (some ⟨b,off,sp⟩)) = .get b (ldN off s):=rfl
@[go_sem] theorem ahM{L:List Value}{ro:Bool}{off:Nat}:ld1 off (.cells (PT.ofList .leaf 0 L) ro)=vF "load" L[off]? := by simp[ld1,PT.aQ]
@[go_sem] theorem ahN{L:List Value}{ro:Bool}{off s:Nat}:ldN off s (.cells (PT.ofList .leaf 0 L) ro)=cond (Nat.ble (off+s) L.length||Nat.beq s 0) (.pure (.value (.agg ⟨(L.drop off).take s⟩))) (.fail "load"):=by
 simp only[ldN,dU];cases (Nat.ble (off+s) L.length||Nat.beq s 0)<;>rfl
def stB(b off:Nat)(vs:List Value):aj→AP aG
 | .cells c false=>match bN c off vs with
  |some c' => .set b (.cells c' false) (.pure .skip)
  |none => .fail "store"
 | _ => .fail "store"
def GN(s:Option Nat)(x:Value)(vs:List Value):AP aG:=match x,s with
 | .pointer (some a),some s=>cond (Nat.beq vs.length s) (.get a.block (stB a.block a.off vs)) (.fail "store")
 | _,_ => .fail "store"
@[go_sem] theorem abh{t:TypeId}{a x:Operand}:k7 P ρ ⟨d,.store t a x,ty,pos,af,g⟩=GN (bX P t) (ρ a) (ρ x).cells.toList:=by
 show (mW P t (ρ a) (ρ x)).bind _=_
 unfold mW GN bX;generalize ρ a=y;cases y with
 |pointer p=>
  cases p with
  |none=>rfl
  |some a=>
   cases P.info? t with
   |none=>rfl
   |some i=>
    simp only[Option.map_some];cases Nat.beq (ρ x).cells.toList.length i.size with
    |false=>rfl
    |true=>
     simp only[cond_true,AP.bind]
     congr 1
     funext b
     cases b with
     |cells c ro=>cases ro with
      |true=>rfl
      |false=>simp only[stB];cases bN c a.off (ρ x).cells.toList<;>rfl
     | _=>rfl
 | _=>rfl
@[go_sem] theorem YE{s b off:Nat}{sp:Option Nat}{vs:List Value}:GN (some s) (.pointer (some ⟨b,off,sp⟩)) vs=cond (Nat.beq vs.length s) (.get b (stB b off vs)) (.fail "store"):=rfl
@[go_sem] theorem ahO{L vs:List Value}{b off:Nat}:stB b off vs (.cells (PT.ofList .leaf 0 L) false)=cond ((Nat.ble (off+vs.length) L.length||vs.isEmpty)&&vs.all bw) (.set b (.cells (PT.ofList .leaf 0 (rj L off vs)) false) (.pure .skip)) (.fail "store"):=by
 simp only[stB,je];cases ((Nat.ble (off+vs.length) L.length||vs.isEmpty)&&vs.all bw)<;>rfl
@[go_sem] theorem abj{k:IntKind}{n:Int}:(Value.int k n).cells=#[.int k n]:=rfl
@[go_sem] theorem YF{b:Bool}:(Value.bool b).cells=#[.bool b]:=rfl
@[go_sem] theorem abk{a:Option Addr}:(Value.pointer a).cells=#[.pointer a]:=rfl
@[go_sem] theorem Wg{a:Option Addr}{n c:Nat}:(Value.slice a n c).cells=#[.slice a n c]:=rfl
@[go_sem] theorem abl{a:Option Nat}:(Value.map a).cells=#[.map a]:=rfl
@[go_sem] theorem Tl{s:ByteArray}:(Value.string s).cells=#[.string s]:=rfl
@[go_sem] theorem YG{f:Fn}{x y:Array Value}:(Value.func f x y).cells=#[.func f x y]:=rfl
@[go_sem] theorem RL:Value.nilFunc.cells=#[.nilFunc]:=rfl
@[go_sem] theorem Wh{t:TypeId}{v:Value}:(Value.iface t v).cells=#[.iface t v]:=rfl
@[go_sem] theorem NS:Value.nilIface.cells=#[.nilIface]:=rfl
@[go_sem] theorem abm{l:Array Value}:(Value.agg l).cells=l:=rfl
@[go_sem] theorem ahP{k:IntKind}{n:Int}:bw (Value.int k n)=true:=rfl
@[go_sem] theorem adB{b:Bool}:bw (Value.bool b)=true:=rfl
@[go_sem] theorem ahQ{a:Option Addr}:bw (Value.pointer a)=true:=rfl
@[go_sem] theorem abn{a:Option Addr}{n c:Nat}:bw (Value.slice a n c)=true:=rfl
@[go_sem] theorem ahR{a:Option Nat}:bw (Value.map a)=true:=rfl
@[go_sem] theorem YH{s:ByteArray}:bw (Value.string s)=true:=rfl
@[go_sem] theorem adC{f:Fn}{x y:Array Value}:bw (Value.func f x y)=true:=rfl
@[go_sem] theorem Wi:bw Value.nilFunc=true:=rfl
@[go_sem] theorem abo{t:TypeId}{v:Value}:bw (Value.iface t v)=true:=rfl
@[go_sem] theorem Tn:bw Value.nilIface=true:=rfl
@[go_sem] theorem ahS{t:TypeId}{x:Operand}:k7 P ρ ⟨d,.box t x,ty,pos,af,g⟩ = .new (.cells (PT.ofList .leaf 0 (ρ x).cells.toList) false) fun id => .pure (.value (.pointer (some ⟨id,0,none⟩))):=rfl
def NT(z:Option (List Value)):AP aG:=match z with
 |some l => .new (.cells (PT.ofList .leaf 0 l) false) fun id => .pure (.value (.pointer (some ⟨id,0,none⟩)))
 |none => .fail "alloc"
@[go_sem] theorem abp{t:TypeId}:k7 P ρ ⟨d,.alloc t,ty,pos,af,g⟩=NT (cX P t):=by
 show (qN P t).bind _=_
 unfold qN cX;cases zeroOf P t<;>rfl
@[go_sem] theorem Wj{l:List Value}:NT (some l) = .new (.cells (PT.ofList .leaf 0 l) false) fun id => .pure (.value (.pointer (some ⟨id,0,none⟩))):=rfl
def faQ(f:Option (Nat×Nat))(x:Value):AP aG:=match x,f with
 | .pointer (some a),some (o,s)=>cond (Nat.beq s 0) (.fail "fieldAddr") (.pure (.value (.pointer (some (kH a o)))))
 | _,_ => .fail "fieldAddr"
@[go_sem] theorem RM{t:TypeId}{x:Operand}{f:Nat}:k7 P ρ ⟨d,.fieldAddr t x f,ty,pos,af,g⟩=faQ (bI P t f) (ρ x):=by
 show (gx P t (ρ x) f).bind _=_
 unfold gx faQ bI;generalize ρ x=y;cases y with
 |pointer p=>
  cases p with
  |none=>rfl
  |some a=>
   cases P.underlying t with
   |none=>rfl
   |some u=>
    cases u with
    |struct fs=>
     simp only;cases fs.toList[f]? with
     |none=>rfl
     |some fd=>
      simp only;cases P.info? fd.type with
      |none=>rfl
      |some i=>simp only[Option.map_some];cases Nat.beq i.size 0<;>rfl
    | _=>rfl
 | _=>rfl
@[go_sem] theorem ahT{b off:Nat}{sp:Option Nat}{o s:Nat}:faQ (some (o,s)) (.pointer (some ⟨b,off,sp⟩))=cond (Nat.beq s 0) (.fail "fieldAddr") (.pure (.value (.pointer (some ⟨b,off+o,none⟩)))):=rfl
def qH(cs:List Value)(off s:Nat)(agg:Bool):Option Value:=cond agg (some (.agg ⟨(cs.drop off).take s⟩)) cs[off]?
@[go_sem] theorem YI{cs:List Value}{off s:Nat}:qH cs off s true=some (.agg ⟨(cs.drop off).take s⟩):=rfl
@[go_sem] theorem Wk{cs:List Value}{off s:Nat}:qH cs off s false=cs[off]? := rfl
def fdQ(f:Option (Nat×Nat×Bool))(x:Value):AP aG:=match x,f with
 | .agg cs,some (o,s,g)=>vF "field" (qH cs.toList o s g)
 | _,_ => .fail "field"
theorem DT{t:TypeId}{cs:List Value}{off:Nat}:k_ P t cs off=match P.info? t,P.underlying t with |some i,some u=>qH cs off i.size (isAgg u) | _,_=>none:=by
 unfold k_;cases P.info? t with
 |none=>rfl
 |some i=>cases P.underlying t with
  |none=>rfl
  |some u=>simp only[qH]
@[go_sem] theorem abq{t:TypeId}{x:Operand}{f:Nat}:k7 P ρ ⟨d,.field t x f,ty,pos,af,g⟩=fdQ (bJ P t f) (ρ x):=by
 show (qP P t (ρ x) f).bind _=_
 unfold qP fdQ bJ;generalize ρ x=y;cases y with
 |agg cs=>
  cases P.underlying t with
  |none=>rfl
  |some u=>
   cases u with
   |struct fs=>
    simp only;cases fs.toList[f]? with
    |none=>rfl
    |some fd=>
     simp only[DT];cases P.info? fd.type with
     |none=>rfl
     |some i=>
      cases P.underlying fd.type with
      |none=>rfl
      |some u=>
       simp only[AP.opt];cases qH cs.toList fd.offset i.size (isAgg u)<;>rfl
   | _=>rfl
 | _=>rfl
@[go_sem] theorem ahU{cs:Array Value}{o s:Nat}{b:Bool}:fdQ (some (o,s,b)) (.agg cs)=vF "field" (qH cs.toList o s b):=rfl
def iaQ(k:Option (Option Nat×Nat))(x:Value)(i:Option Nat):AP aG:=match k,x,i with
 |some (some len,s),.pointer (some a),some n=>cond (Nat.blt n len) (.pure (.value (.pointer (some (kH a (n*s)))))) (.fail "indexAddr")
 |some (none,s),.slice (some a) len _,some n=>cond (Nat.blt n len) (.pure (.value (.pointer (some (kH a (n*s)))))) (.fail "indexAddr")
 | _,_,_ => .fail "indexAddr"
@[go_sem] theorem RO{t:TypeId}{x i:Operand}:k7 P ρ ⟨d,.indexAddr t x i,ty,pos,af,g⟩=iaQ (vV P t) (ρ x) (asNat (ρ i)):=by
 show (eY P t (ρ x) (ρ i)).bind _=_
 unfold eY iaQ vV;generalize ρ x=y;generalize asNat (ρ i)=j;cases hu:P.underlying t with
 |none=>rfl
 |some u=>
  cases u with
  |array len e=>
   cases y with
   |pointer p=>cases p with
    |none=>cases j<;>dsimp only<;>cases P.info? e<;>rfl
    |some a=>cases j with
     |none=>dsimp only;cases P.info? e<;>rfl
     |some n=>
      dsimp only;cases P.info? e with
      |none=>rfl
      |some i=>simp only[Option.map_some];cases Nat.blt n len<;>rfl
   | _=>dsimp only;cases P.info? e<;>rfl
  |slice e=>
   cases y with
   |slice p len c=>cases p with
    |none=>cases j<;>dsimp only<;>cases P.info? e<;>rfl
    |some a=>cases j with
     |none=>dsimp only;cases P.info? e<;>rfl
     |some n=>
      dsimp only;cases P.info? e with
      |none=>rfl
      |some i=>simp only[Option.map_some];cases Nat.blt n len<;>rfl
   | _=>dsimp only;cases P.info? e<;>rfl
  | _=>rfl
@[go_sem] theorem ahW{len s b off n:Nat}{sp:Option Nat}:iaQ (some (some len,s)) (.pointer (some ⟨b,off,sp⟩)) (some n)=cond (Nat.blt n len) (.pure (.value (.pointer (some ⟨b,off+n*s,none⟩)))) (.fail "indexAddr"):=rfl
@[go_sem] theorem abr{len c s b off n:Nat}{sp:Option Nat}:iaQ (some (none,s)) (.slice (some ⟨b,off,sp⟩) len c) (some n)=cond (Nat.blt n len) (.pure (.value (.pointer (some ⟨b,off+n*s,none⟩)))) (.fail "indexAddr"):=rfl
def ixQ(k:Option (Nat×Nat×Bool))(x:Value)(i:Option Nat):AP aG:=match k,x,i with
 |some (len,s,b),.agg cs,some n=>cond (Nat.blt n len) (vF "index" (qH cs.toList (n*s) s b)) (.fail "index")
 |none,.string s,some n=>vF "index" (s.data.toList[n]?.map fun b => .int .u8 b.toNat)
 | _,_,_ => .fail "index"
def ixT(P:Program)(t:TypeId):Option (Nat×Nat×Bool):=
 match P.underlying t with
 |some (.array n e)=>match P.info? e,P.underlying e with
  |some i,some u=>some (n,i.size,isAgg u)
  | _,_=>none
 | _=>none
theorem GQ{t:TypeId}{x i:Operand}{cs:Array Value}(hx:ρ x = .agg cs):k7 P ρ ⟨d,.index t x i,ty,pos,af,g⟩=ixQ (ixT P t) (.agg cs) (asNat (ρ i)):=by
 show (oA P t (ρ x) (ρ i)).bind _=_
 rw[hx];unfold oA ixQ ixT;generalize asNat (ρ i)=j;cases hu:P.underlying t with
 |none=>rfl
 |some u=>
  cases u with
  |array len e=>
   cases j with
   |none=>simp only;cases P.info? e with
    |none=>rfl
    |some i=>cases P.underlying e<;>rfl
   |some n=>
    simp only[DT];cases P.info? e with
    |none=>rfl
    |some i=>
     simp only;cases P.underlying e with
     |none=>cases Nat.blt n len<;>rfl
     |some u=>simp only;cases Nat.blt n len with
      |false=>rfl
      |true=>simp only[cond_true];cases qH cs.toList (n*i.size) i.size (isAgg u)<;>rfl
  |string=>cases j<;>rfl
  | _=>rfl
def NU(P:Program)(t:TypeId)(x i:Value):AP aG:=(oA P t x i).bind fun v => .pure (.value v)
@[go_sem] theorem abu{t:TypeId}{x i:Operand}:k7 P ρ ⟨d,.index t x i,ty,pos,af,g⟩=NU P t (ρ x) (ρ i):=rfl
@[go_sem] theorem YJ{t:TypeId}{i:Value}{cs:Array Value}:NU P t (.agg cs) i=ixQ (ixT P t) (.agg cs) (asNat i):=
 GQ (ρ:=fun o=>match o with | .tmp 0 => .agg cs | _=>i) (x := .tmp 0) (i := .tmp 1) (d:=none) (ty:=0) (pos := "") (af:=#[]) (g:=none) rfl
@[go_sem] theorem ahY{len s n:Nat}{b:Bool}{cs:Array Value}:ixQ (some (len,s,b)) (.agg cs) (some n)=cond (Nat.blt n len) (vF "index" (qH cs.toList (n*s) s b)) (.fail "index"):=rfl
def dN(P:Program)(o:BinOp)(t:TypeId)(cx cy:Bool)(x y:Value):AP aG:=(eE P o t cx cy x y).bind fun v => .pure (.value v)
@[go_sem] theorem abv{o:BinOp}{t t':TypeId}{x y:Operand}:k7 P ρ ⟨d,.binOp o t x y t',ty,pos,af,g⟩=dN P o t (isConst x) (isConst y) (ρ x) (ρ y):=rfl
section
variable {t:TypeId} {cx cy:Bool} {k k':IntKind} {a b:Int}
@[go_sem] theorem adD:dN P .add t cx cy (.int k a) (.int k b) = .pure (.value (.int k (k.wrap (a+b)))):=by show AP.bind (ite (k=k) _ _) _=_;rw[if_pos rfl];rfl
@[go_sem] theorem adE:dN P .sub t cx cy (.int k a) (.int k b) = .pure (.value (.int k (k.wrap (a-b)))):=by show AP.bind (ite (k=k) _ _) _=_;rw[if_pos rfl];rfl
@[go_sem] theorem adF:dN P .mul t cx cy (.int k a) (.int k b) = .pure (.value (.int k (k.wrap (a*b)))):=by show AP.bind (ite (k=k) _ _) _=_;rw[if_pos rfl];rfl
@[go_sem] theorem adG:dN P .quo t cx cy (.int k a) (.int k b)=cond (decide (b=0)) (.fail "intOp") (.pure (.value (.int k (k.wrap (a.tdiv b))))):=by
 show AP.bind (ite (k=k) _ _) _=_
 rw[if_pos rfl];by_cases h:b=0<;>simp[intOp,h,AP.opt,AP.bind]
@[go_sem] theorem adH:dN P .rem t cx cy (.int k a) (.int k b)=cond (decide (b=0)) (.fail "intOp") (.pure (.value (.int k (a.tmod b)))):=by
 show AP.bind (ite (k=k) _ _) _=_
 rw[if_pos rfl];by_cases h:b=0<;>simp[intOp,h,AP.opt,AP.bind]
@[go_sem] theorem adI:dN P .and t cx cy (.int k a) (.int k b) = .pure (.value (.int k (k.wrap (BitVec.ofInt k.bits a&&&BitVec.ofInt k.bits b).toNat))):=by show AP.bind (ite (k=k) _ _) _=_;rw[if_pos rfl];rfl
@[go_sem] theorem ahZ:dN P .or t cx cy (.int k a) (.int k b) = .pure (.value (.int k (k.wrap (BitVec.ofInt k.bits a|||BitVec.ofInt k.bits b).toNat))):=by show AP.bind (ite (k=k) _ _) _=_;rw[if_pos rfl];rfl
@[go_sem] theorem adJ:dN P .eql t cx cy (.int k a) (.int k b) = .pure (.value (.bool (decide (a=b)))):=by show AP.bind (ite (k=k) _ _) _=_;rw[if_pos rfl];rfl
@[go_sem] theorem adK:dN P .neq t cx cy (.int k a) (.int k b) = .pure (.value (.bool (decide (a≠b)))):=by show AP.bind (ite (k=k) _ _) _=_;rw[if_pos rfl];exact congrArg (fun z=>AP.pure (aG.value (Value.bool z))) (by by_cases h:a=b<;>simp[h])
@[go_sem] theorem adL:dN P .lss t cx cy (.int k a) (.int k b) = .pure (.value (.bool (decide (a<b)))):=by show AP.bind (ite (k=k) _ _) _=_;rw[if_pos rfl];rfl
@[go_sem] theorem adM:dN P .leq t cx cy (.int k a) (.int k b) = .pure (.value (.bool (decide (a≤b)))):=by show AP.bind (ite (k=k) _ _) _=_;rw[if_pos rfl];rfl
@[go_sem] theorem adN:dN P .gtr t cx cy (.int k a) (.int k b) = .pure (.value (.bool (decide (b<a)))):=by show AP.bind (ite (k=k) _ _) _=_;rw[if_pos rfl];rfl
@[go_sem] theorem adO:dN P .geq t cx cy (.int k a) (.int k b) = .pure (.value (.bool (decide (b≤a)))):=by show AP.bind (ite (k=k) _ _) _=_;rw[if_pos rfl];rfl
@[go_sem] theorem aot:dN P .shr t cx cy (.int k a) (.int k' b)=cond (decide (b<0)) (.fail "shr") (.pure (.value (.int k (a.fdiv (2^min b.toNat k.bits))))):=by
 by_cases h:b<0<;>simp[dN,eE,shiftOp,AP.opt,h,AP.bind]
def NV(u:Option TypeDesc)(neg:Bool)(x:Option Addr):AP aG:=match u with
 |some (.pointer _) => .pure (.value (.bool (x.isNone^^neg)))
 | _ => .fail "equal"
theorem xG{D:Nat}{x:Option Addr}:cj P (D+1) t (.pointer x) (.pointer none)=match P.underlying t with |some (.pointer _) => .pure x.isNone | _ => .fail "equal":=by
 unfold cj;cases P.underlying t with
 |none=>cases x<;>rfl
 |some u=>cases u<;>cases x<;>rfl
@[go_sem] theorem Wn{x:Option Addr}:dN P .eql t cx cy (.pointer x) (.pointer none)=NV (P.underlying t) false x:=by
 have:dN P .eql t cx cy (.pointer x) (.pointer none)=AP.bind ((cj P (11+1) t (.pointer x) (.pointer none)).bind fun b => .pure (.bool b)) fun v => .pure (.value v):=by
  simp only[dN,eE,b9,cond_true]
 rw[this,xG];unfold NV;cases P.underlying t with
 |none=>rfl
 |some u=>cases u<;>first|rfl | (cases x<;>rfl)
@[go_sem] theorem Wp{x:Option Addr}:dN P .neq t cx cy (.pointer x) (.pointer none)=NV (P.underlying t) true x:=by
 have:dN P .neq t cx cy (.pointer x) (.pointer none)=AP.bind ((cj P (11+1) t (.pointer x) (.pointer none)).bind fun b => .pure (.bool !b)) fun v => .pure (.value v):=by
  simp only[dN,eE,b9,cond_true]
 rw[this,xG];unfold NV;cases P.underlying t with
 |none=>rfl
 |some u=>cases u<;>first|rfl | (cases x<;>rfl)
@[go_sem] theorem adP{e:TypeId}{neg:Bool}{x:Option Addr}:NV (some (.pointer e)) neg x = .pure (.value (.bool (x.isNone^^neg))):=rfl
end
def unV(o:UnOp)(x:Value):AP aG:=vF "unOp" (oz o x)
@[go_sem] theorem adQ{o:UnOp}{t:TypeId}{x:Operand}:k7 P ρ ⟨d,.unOp o t x,ty,pos,af,g⟩=unV o (ρ x):=by
 show (AP.opt "unOp" (oz o (ρ x)) AP.pure).bind _=_
 unfold unV;cases oz o (ρ x)<;>rfl
@[go_sem] theorem ah1{k:IntKind}{a:Int}:unV .neg (.int k a) = .pure (.value (.int k (k.wrap (0-a)))):=rfl
@[go_sem] theorem ah2{b:Bool}:unV .not (.bool b) = .pure (.value (.bool !b)):=rfl
def cvQ(s u:Option TypeDesc)(x:Value):AP aG:=match s,u,x with
 |some _,some (.int k),.int _ n => .pure (.value (.int k (k.wrap n)))
 |some _,some .string,.string s => .pure (.value (.string s))
 | _,_,_ => .fail "convert"
@[go_sem] theorem Wq{s t:TypeId}{x:Operand}:k7 P ρ ⟨d,.convert s t x,ty,pos,af,g⟩=cvQ (P.underlying s) (P.underlying t) (ρ x):=by
 show (kG P s t (ρ x)).bind _=_
 unfold kG cvQ;generalize ρ x=y;cases P.underlying s with
 |none=>rfl
 |some a=>cases P.underlying t with
  |none=>rfl
  |some u=>cases u<;>cases y<;>rfl
@[go_sem] theorem ah3{u:TypeDesc}{k k':IntKind}{n:Int}:cvQ (some u) (some (.int k)) (.int k' n) = .pure (.value (.int k (k.wrap n))):=rfl
def ncQ(x:Value):AP aG:=(kr x).bind fun v => .pure (.value v)
@[go_sem] theorem Tp{x:Operand}:k7 P ρ ⟨d,.nilCheck x,ty,pos,af,g⟩=ncQ (ρ x):=rfl
@[go_sem] theorem ah4{a:Addr}:ncQ (.pointer (some a)) = .pure (.value (.pointer (some a))):=rfl
def exQ(x:Value)(i:Nat):AP aG:=match x with
 | .tuple vs=>vF "extract" (vs.toList[i]?)
 | _ => .fail "extract"
@[go_sem] theorem Wr{x:Operand}{i:Nat}:k7 P ρ ⟨d,.extract x i,ty,pos,af,g⟩=exQ (ρ x) i:=by
 show (jL (ρ x) i).bind _=_
 unfold jL exQ;cases ρ x<;>first|rfl |skip
 rename_i vs;simp only[AP.opt];cases vs.toList[i]? <;> rfl
@[go_sem] theorem abw{vs:Array Value}{i:Nat}:exQ (.tuple vs) i=vF "extract" (vs.toList[i]?):=rfl
@[go_sem] theorem Tq{fn:Fn}{first captured:Array Operand}:k7 P ρ ⟨d,.makeFunc fn first captured,ty,pos,af,g⟩=cond (j6 fn) (.pure (.value (.func fn ⟨first.toList.map ρ⟩ ⟨captured.toList.map ρ⟩))) (.fail "makeFunc"):=rfl
@[go_sem] theorem Tr{f:FuncId}:j6 (.func f)=true:=rfl
def Ws(P:Program)(f:Value)(args:List Value):AP aG:=match f with
 | .func fn first captured=>j7 P fn captured.toList (first.toList++args)
 | _ => .fail "call nil function"
@[go_sem] theorem adR{f:Operand}{as:Array Operand}{ts:Array TypeId}:k7 P ρ ⟨d,.call ⟨.value f,as,ts⟩,ty,pos,af,g⟩=Ws P (ρ f) (as.toList.map ρ):=rfl
@[go_sem] theorem YK{f:FuncId}{first captured:Array Value}{args:List Value}:Ws P (.func (.func f) first captured) args=ah P f ((first.toList++args)++captured.toList):=rfl
def Kx(P:Program)(b:Builtin)(ts:List TypeId)(args:List Value):AP aG:=(oD P b ts args).bind fun v => .pure (.value v)
@[go_sem] theorem Wu{b:Builtin}{as:Array Operand}{ts:Array TypeId}:k7 P ρ ⟨d,.call ⟨.builtin b,as,ts⟩,ty,pos,af,g⟩=Kx P b ts.toList (as.toList.map ρ):=rfl
def adS(P:Program)(u:Option TypeDesc)(x:Value):AP aG:=(match u,x with
    |some .string,.string s=>(.pure (.int .i64 s.size):AP Value)
    |some (.array n _),_ => .pure (.int .i64 n)
    |some (.pointer arr),_=>match P.underlying arr with
     |some (.array n _) => .pure (.int .i64 n)
     | _ => .fail "len"
    |some (.slice _),.slice _ n _ => .pure (.int .i64 n)
    |some (.map _ _),x=>(pU x).bind fun es => .pure (.int .i64 es.length)
    | _,_ => .fail "len").bind fun v => .pure (.value v)
@[go_sem] theorem YL{e:TypeId}{a:Option Addr}{n c:Nat}:adS P (some (.slice e)) (.slice a n c) = .pure (.value (.int .i64 n)):=rfl
@[go_sem] theorem adT{t:TypeId}{ts:List TypeId}{a:Option Addr}{n c:Nat}:Kx P .len (t::ts) [.slice a n c]=adS P (P.underlying t) (.slice a n c):=rfl
end ops
end Go.Am
