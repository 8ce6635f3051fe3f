/-
A part.
-/
import Derived.Test.YtofmbmclopgldaaGreatAmX6
import Derived.Test.YtofmbmclopgldaaGreatAmX7
set_option linter.all false
namespace Go.Am
attribute [go_sem] List.all_cons List.all_nil Bool.and_true Bool.true_and Bool.and_false Bool.false_and Bool.or_true Bool.true_or Bool.or_false Bool.false_or Bool.not_true Bool.not_false
 Option.map_some Option.map_none List.getElem?_cons_zero List.getElem?_cons_succ List.getElem?_nil Option.getD_some List.map_cons List.map_nil List.nil_append List.cons_append List.append_nil
 List.length_cons List.length_nil List.set_cons_zero List.set_cons_succ List.drop_zero List.drop_succ_cons List.take_zero List.take_succ_cons List.drop_nil List.take_nil List.isEmpty_cons List.isEmpty_nil
 cond_true cond_false true_and and_true Option.isNone_some Option.isNone_none Bool.xor_false Bool.xor_true Bool.false_xor Bool.true_xor
 Nat.zero_add Nat.add_zero Nat.mul_one Nat.zero_mul Nat.one_mul List.length_append List.length_map List.append_assoc
 decide_true decide_false eq_self ne_eq not_true_eq_false not_false_eq_true
@[go_sem] theorem YM(l:List Value):(⟨l⟩:Array Value).toList=l:=rfl
@[go_sem] theorem Wv(l:List Operand):(⟨l⟩:Array Operand).toList=l:=rfl
@[go_sem] theorem Ww(l:List (Nat×Operand)):(⟨l⟩:Array (Nat×Operand)).toList=l:=rfl
@[go_sem] theorem Wx(l:List TypeId):(⟨l⟩:Array TypeId).toList=l:=rfl
@[go_sem] theorem Ts(l:List Oper):(⟨l⟩:Array Oper).toList=l:=rfl
@[go_sem] theorem Wy(l:List ResultVar):(⟨l⟩:Array ResultVar).toList=l:=rfl
@[go_sem] theorem Wz(l l':List Operand):(⟨l⟩:Array Operand)++(⟨l'⟩:Array Operand)=⟨l++l'⟩:=by simp
@[go_sem] theorem Tt(x:Operand):(some x).toArray=#[x]:=rfl
@[go_sem] theorem Tv:(none:Option Operand).toArray=#[]:=rfl
@[go_sem] theorem RP{f:Operand}{as:Array Operand}{ts:Array TypeId}:(⟨.value f,as,ts⟩:Call).operands=#[f]++as:=rfl
@[go_sem] theorem NW{b:Builtin}{as:Array Operand}{ts:Array TypeId}:(⟨.builtin b,as,ts⟩:Call).operands=as:=by simp[Call.operands]
def BH(o:Option Value)(r:Option (List Value)):Option (List Value):=match o,r with
 |some v,some l=>some (v::l)
 | _,_=>none
@[go_sem] theorem Tx{v:Value}{l:List Value}:BH (some v) (some l)=some (v::l):=rfl
section
variable {P:Program} {m:Tm} {h:PT aj}
@[go_sem] theorem adU:mF P m h []=some []:=rfl
@[go_sem] theorem adV{t:Tmp}{r:List ResultVar}:mF P m h (.tmp t::r)=BH (some (m.get t)) (mF P m h r):=by
 rw[mF];cases mF P m h r<;>rfl
@[go_sem] theorem abx{a:Tmp}{t:TypeId}{r:List ResultVar}:mF P m h (.cell a t::r)=BH (Tc P t (m.get a) h) (mF P m h r):=by
 rw[mF];cases Tc P t (m.get a) h with
 |none=>rfl
 |some v=>cases mF P m h r<;>rfl
def ldQ(g:Option Bool)(s:Option Nat)(off:Nat)(b:Option aj):Option Value:=match g,s,b with
 |some true,some s,some (.cells c _)=>(aW c off s).map fun l => .agg ⟨l⟩
 |some false,some _,some (.cells c _)=>c.get off
 | _,_,_=>none
@[go_sem] theorem ah6{t:TypeId}{b off:Nat}{sp:Option Nat}:Tc P t (.pointer (some ⟨b,off,sp⟩)) h=ldQ (bY P t) (bX P t) off (h.get b):=by
 unfold Tc fG ldQ bY bX;cases P.info? t with
 |none=>cases P.underlying t with
  |none=>rfl
  |some u=>simp only[Option.map_some,Option.map_none];cases isAgg u<;>rfl
 |some i=>
  cases P.underlying t with
  |none=>rfl
  |some u=>
   simp only[AP.run,Option.map_some,show ∀ m,(S0 h m).heap=h from fun _=>rfl];cases h.get b with
   |none=>cases isAgg u<;>rfl
   |some B=>
    simp only[show Nat.blt b 0=false from rfl,cond_false];cases B with
    |cells c ro=>
     cases isAgg u with
     |false=>simp only[cond_false];cases c.get off<;>rfl
     |true=>simp only[cond_true];cases aW c off i.size<;>rfl
    | _=>cases isAgg u<;>rfl
@[go_sem] theorem at3{s off:Nat}{L:List Value}{ro:Bool}:ldQ (some true) (some s) off (some (.cells (PT.ofList .leaf 0 L) ro))=cond (Nat.ble (off+s) L.length||Nat.beq s 0) (some (.agg ⟨(L.drop off).take s⟩)) none:=by
 simp only[ldQ,dU];cases (Nat.ble (off+s) L.length||Nat.beq s 0)<;>rfl
@[go_sem] theorem aby{v:Value}:oneOf [v]=v:=rfl
@[go_sem] theorem abz{v w:Value}{l:List Value}:oneOf (v::w::l) = .tuple ⟨v::w::l⟩:=rfl
end
@[go_sem] theorem adW{f:FuncId}{args:List Value}:gG [] f args=none:=rfl
@[go_sem] theorem abA{g f:FuncId}{s:List Value→Option (AP Value)}{l:Tab}{args:List Value}:gG ((g,s)::l) f args=cond (Nat.beq f g) (s args) (gG l f args):=rfl
@[go_sem] theorem abB{b:List Nat}:meets [] b=false:=rfl
@[go_sem] theorem GR{x:Nat}{a b:List Nat}:meets (x::a) b=(b.any (Nat.beq x)||meets a b):=rfl
attribute [go_sem] List.any_cons List.any_nil List.reverse_cons List.reverse_nil jM
@[go_sem] theorem NY{lo hi:Nat}:bR [] lo hi=false:=rfl
@[go_sem] theorem vG{x lo hi:Nat}{a:List Nat}:bR (x::a) lo hi=(Nat.ble lo x&&Nat.blt x hi||bR a lo hi):=rfl
@[go_sem] theorem WA{fs:List bO}:dc fs []=true:=rfl
def NZ(f g:Option bO):Bool:=match f,g with
 |some f,some g => !jM f g
 | _,_=>false
@[go_sem] theorem Ty{fs:List bO}{i j:Nat}{L:List (Nat×Nat)}:dc fs ((i,j)::L)=(NZ fs[i]? fs[j]? && dc fs L):=rfl
def kK:List (Nat×Nat×Nat)→List (Nat×Nat)
 | []=>[]
 | (a,n,j)::r=>((List.range' a n).map fun i=>(i,j))++kK r
@[go_sem] theorem acT{fs:List bO}:dc fs (kK [])=true:=rfl
@[go_sem] theorem acN{fs:List bO}{a j:Nat}{r:List (Nat×Nat×Nat)}:dc fs (kK ((a,0,j)::r))=dc fs (kK r):=rfl
@[go_sem] theorem acO{fs:List bO}{a n j:Nat}{r:List (Nat×Nat×Nat)}:dc fs (kK ((a,n+1,j)::r))=(NZ fs[a]? fs[j]? && dc fs (kK ((a+1,n,j)::r))):=rfl
@[go_sem] theorem WB{f g:bO}:NZ (some f) (some g) = !jM f g:=rfl
section ops
variable {P:Program} {ρ:Operand→Value} {d:Option Tmp} {ty:TypeId} {pos:String} {af:Array Edge} {g:Option (Nat×Bool)}
def N_(pl:Option (Nat×Nat))(cells vs:List Value):Option (List Value):=match pl with
 |some (off,size)=>cond (Nat.beq vs.length size&&Nat.ble (off+vs.length) cells.length) (some (fD cells off vs)) none
 |none=>none
def WC(place:Nat→Option (Nat×Nat))(c:Option (List Value))(r:List (Nat×Value)):Option (List Value):=match c with
 |some c=>iV place c r
 |none=>none
@[go_sem] theorem abC{place:Nat→Option (Nat×Nat)}{cells:List Value}:iV place cells []=some cells:=rfl
@[go_sem] theorem YN{place:Nat→Option (Nat×Nat)}{cells:List Value}{i:Nat}{v:Value}{r:List (Nat×Value)}:iV place cells ((i,v)::r)=WC place (N_ (place i) cells v.cells.toList) r:=by
 rw[iV];unfold N_;cases place i with
 |none=>rfl
 |some p=>
  obtain⟨off,size⟩:=p;simp only;cases (Nat.beq v.cells.toList.length size&&Nat.ble (off+v.cells.toList.length) cells.length)<;>rfl
@[go_sem] theorem YO{off size:Nat}{cells vs:List Value}:N_ (some (off,size)) cells vs=cond (Nat.beq vs.length size&&Nat.ble (off+vs.length) cells.length) (some (fD cells off vs)) none:=rfl
@[go_sem] theorem YP{place:Nat→Option (Nat×Nat)}{c:List Value}{r:List (Nat×Value)}:WC place (some c) r=iV place c r:=rfl
@[go_sem] theorem WD{l vs:List Value}{off:Nat}:fD l off vs=l.take off++vs++l.drop (off+vs.length):=rfl
attribute [go_sem] rep
def j0(P:Program)(t:TypeId):Option (List Value×(Nat→Option (Nat×Nat))):=
 match zeroOf P t,P.underlying t with
 |some z,some (.struct fs)=>(fH P fs.toList).map fun ps=>(z.cells.toList,(ps[·]?))
 |some z,some (.array _ e)=>(P.info? e).map fun i=>(z.cells.toList,fun j=>some (j*i.size,i.size))
 | _,_=>none
def YQ(w:String)(o:Option (List Value)):AP aG:=match o with
 |some l => .pure (.value (.agg ⟨l⟩))
 |none => .fail w
@[go_sem] theorem abD{w:String}{l:List Value}:YQ w (some l) = .pure (.value (.agg ⟨l⟩)):=rfl
def bdQ(k:Option (List Value×(Nat→Option (Nat×Nat))))(parts:List (Nat×Value)):AP aG:=match k with
 |some (z,pl)=>YQ "build" (iV pl z parts)
 |none => .fail "build"
@[go_sem] theorem adX{z:List Value}{pl:Nat→Option (Nat×Nat)}{parts:List (Nat×Value)}:bdQ (some (z,pl)) parts=YQ "build" (iV pl z parts):=rfl
@[go_sem] theorem abE{t:TypeId}{ps:Array (Nat×Operand)}:k7 P ρ ⟨d,.build t ps,ty,pos,af,g⟩=bdQ (j0 P t) (ps.toList.map fun p=>(p.1,ρ p.2)):=by
 show (qO P t _).bind _=_
 unfold qO bdQ j0;generalize ps.toList.map (fun p=>(p.1,ρ p.2))=l;cases zeroOf P t with
 |none=>rfl
 |some z=>
  cases P.underlying t with
  |none=>rfl
  |some u=>
   cases u with
   |struct fs=>
    simp only;cases fH P fs.toList with
    |none=>rfl
    |some ps=>simp only[Option.map_some];cases iV (ps[·]?) z.cells.toList l<;>rfl
   |array len e=>
    simp only;cases P.info? e with
    |none=>rfl
    |some i=>simp only[Option.map_some];cases iV (fun j=>some (j*i.size,i.size)) z.cells.toList l<;>rfl
   | _=>rfl
def CS(P:Program)(t:TypeId):Option (Nat×Nat×List Value):=
 match P.underlying t with
 |some (.slice e)=>match P.info? e,zeroOf P e with
  |some i,some z=>some (i.size,i.bytes,z.cells.toList)
  | _,_=>none
 | _=>none
def YR(n:Nat)(o:Option (List Value)):AP aG:=match o with
 |some l => .new (.cells (PT.ofList .leaf 0 l) false) fun id => .pure (.value (.slice (some ⟨id,0,none⟩) n n))
 |none => .fail "buildSlice"
@[go_sem] theorem abF{n:Nat}{l:List Value}:YR n (some l) = .new (.cells (PT.ofList .leaf 0 l) false) fun id => .pure (.value (.slice (some ⟨id,0,none⟩) n n)):=rfl
def bsQ(k:Option (Nat×Nat×List Value))(n:Nat)(parts:List (Nat×Value)):AP aG:=match k with
 |some (s,_,z)=>cond (Nat.ble (n*s) 16777216&&Nat.beq z.length s&&Nat.blt 0 s) (YR n (iV (fun j=>some (j*s,s)) (rep z n) parts)) (.fail "buildSlice")
 |none => .fail "buildSlice"
@[go_sem] theorem adY{s b n:Nat}{z:List Value}{parts:List (Nat×Value)}:bsQ (some (s,b,z)) n parts=cond (Nat.ble (n*s) 16777216&&Nat.beq z.length s&&Nat.blt 0 s) (YR n (iV (fun j=>some (j*s,s)) (rep z n) parts)) (.fail "buildSlice"):=rfl
@[go_sem] theorem Oa{t:TypeId}{n:Nat}{ps:Array (Nat×Operand)}:k7 P ρ ⟨d,.buildSlice t n ps,ty,pos,af,g⟩=bsQ (CS P t) n (ps.toList.map fun p=>(p.1,ρ p.2)):=by
 show (gu P t n _).bind _=_
 unfold gu bsQ CS;generalize ps.toList.map (fun p=>(p.1,ρ p.2))=l;cases P.underlying t with
 |none=>rfl
 |some u=>
  cases u with
  |slice e=>
   simp only;cases P.info? e with
   |none=>rfl
   |some i=>
    cases zeroOf P e with
    |none=>rfl
    |some z=>
     simp only;cases (Nat.ble (n*i.size) 16777216&&Nat.beq z.cells.toList.length i.size&&Nat.blt 0 i.size) with
     |false=>rfl
     |true=>
      simp only[cond_true];cases iV (fun j=>some (j*i.size,i.size)) (rep z.cells.toList n) l<;>rfl
  | _=>rfl
def msQ(k:Option (Nat×Nat×List Value))(l c:Option Nat):AP aG:=match k,l,c with
 |some (s,by',z),some l,some c=>cond (Nat.ble l c&&Nat.ble c 1048576&&Nat.ble by' 65536&&Nat.beq z.length s&&Nat.blt 0 s)
   (.new (.cells (PT.ofList .leaf 0 (rep z c)) false) fun id => .pure (.value (.slice (some ⟨id,0,none⟩) l c))) (.fail "makeSlice")
 | _,_,_ => .fail "makeSlice"
@[go_sem] theorem adZ{s by' l c:Nat}{z:List Value}:msQ (some (s,by',z)) (some l) (some c)=cond (Nat.ble l c&&Nat.ble c 1048576&&Nat.ble by' 65536&&Nat.beq z.length s&&Nat.blt 0 s)
   (.new (.cells (PT.ofList .leaf 0 (rep z c)) false) fun id => .pure (.value (.slice (some ⟨id,0,none⟩) l c))) (.fail "makeSlice"):=rfl
@[go_sem] theorem RQ{t:TypeId}{l c:Operand}:k7 P ρ ⟨d,.makeSlice t l c,ty,pos,af,g⟩=msQ (CS P t) (asNat (ρ l)) (asNat (ρ c)):=by
 show (iF P t (ρ l) (ρ c)).bind _=_
 unfold iF msQ CS;generalize asNat (ρ l)=x;generalize asNat (ρ c)=y;cases P.underlying t with
 |none=>rfl
 |some u=>
  cases u with
  |slice e=>
   cases x with
   |none=>dsimp only;cases P.info? e<;>cases zeroOf P e<;>rfl
   |some x=>cases y with
    |none=>dsimp only;cases P.info? e<;>cases zeroOf P e<;>rfl
    |some y=>
     dsimp only;cases P.info? e with
     |none=>cases zeroOf P e<;>rfl
     |some i=>cases zeroOf P e with
      |none=>rfl
      |some z=>
       dsimp only;cases (Nat.ble x y&&Nat.ble y 1048576&&Nat.ble i.bytes 65536&&Nat.beq z.cells.toList.length i.size&&Nat.blt 0 i.size)<;>rfl
  | _=>rfl
def oV(s by' zl len n:Nat)(old new:List Value):AP Value:=
 cond (Nat.ble (len+n) 1048576&&Nat.ble by' 65536&&Nat.beq zl s&&Nat.beq old.length (len*s)&&Nat.beq new.length (n*s))
  (.new (.cells (PT.ofList .leaf 0 (old++new)) false) fun id => .pure (.slice (some ⟨id,0,none⟩) (len+n) (aA+s)))
  (.fail "append")
def Ky(s by' zl:Nat)(base:Option Addr)(len cap n:Nat)(new:List Value):AP Value:=
 cond (Nat.beq n 0&&Nat.ble len cap&&new.isEmpty) (.pure (.slice base len cap))
 (cond (Nat.ble aA cap)
  (match base with
   |some a=>cond (Nat.beq cap (aA+s)&&new.all bw)
    (.get a.block fun
     | .cells c false=>match aW c a.off (len*s) with
      |some old => .kill a.block (oV s by' zl len n old new)
      |none => .fail "append"
     | _ => .fail "append") (.fail "append")
   |none => .fail "append")
  (cond (Nat.ble (len+n) cap)
   (match base with
    |some a => .get a.block fun
     | .cells c false=>match bN c (a.off+len*s) new with
      |some c' => .set a.block (.cells c' false) (.pure (.slice (some a) (len+n) cap))
      |none => .fail "append"
     | _ => .fail "append"
    |none => .fail "append")
   ((iG s (.slice base len cap)).bind fun p=>oV s by' zl len n p.2 new)))
def DU(P:Program)(t tx:TypeId):Option (Nat×Nat×Nat):=
 match P.underlying t,P.underlying tx with
 |some (.slice _),some (.int _)=>none
 |some (.slice e),some _=>match P.info? e,zeroOf P e with
  |some i,some z=>some (i.size,i.bytes,z.cells.toList.length)
  | _,_=>none
 | _,_=>none
def apQ(k:Option (Nat×Nat×Nat))(s x:Value)(fb:AP aG):AP aG:=match k,s with
 |some (sz,by',zl),.slice base len cap=>((iG sz x).bind fun p=>Ky sz by' zl base len cap p.1 p.2).bind fun v => .pure (.value v)
 |some _,_ => .fail "append"
 |none,_=>fb
@[go_sem] theorem WE{t tx:TypeId}{s x:Value}:Kx P .append [t,tx] [s,x]=apQ (DU P t tx) s x ((gP P [t,tx] [s,x]).bind fun v => .pure (.value v)):=by
 show (gP P [t,tx] [s,x]).bind _=_
 cases hk:DU P t tx with
 |none=>rfl
 |some k=>
  unfold DU at hk;split at hk
  ·simp at hk
  ·rename_i e d hni h1 h2;split at hk
   ·rename_i i z hi hz;simp only[Option.some.injEq] at hk;subst hk;unfold gP apQ;simp only[h1,h2];cases d with
    |int k=>exact absurd rfl (hni k)
    | _=>cases s<;>first|rfl|simp only[hi,hz];rfl
   ·simp at hk
  ·simp at hk
end ops
end Go.Am
namespace Go.Am
theorem ay{P:Program}{O:Over}{f:FuncId}{fn:Func}{c:Code}{args:List Value}{h:PT aj}{n N:Nat}{R:Value→PT aj→Nat→Prop}(hf:P.funcs[f]? = some fn)(hb:fn.body=some c)(hN:args.length+(fn.ntmps-args.length)=N)
  (H:∀ z:Zx,z.P=P→z.O=O→z.ro=none→z.N=N→z.Q=Fin P fn.results.toList R→iZ z c [] ⟨N,PT.ofList .leaf 0 args,[]⟩ h n):cE P O f args h n R:=by
 subst hN;exact Yu hf hb H
@[go_sem] theorem ah7{P:Program}{rs:List ResultVar}{R:Value→PT aj→Nat→Prop}{m:Tm}{h:PT aj}{n:Nat}:Fin P rs R .ret m h n↔m.fF=[]∧∃ l,mF P m h rs=some l∧R (oneOf l) h n:=by simp[Fin]
@[go_sem] theorem YS{P:Program}{rs:List ResultVar}{R:Value→PT aj→Nat→Prop}{m:Tm}{h:PT aj}{n:Nat}:Fin P rs R .normal m h n↔m.fF=[]∧∃ l,mF P m h rs=some l∧R (oneOf l) h n:=by simp[Fin]
attribute [go_sem] Option.some.injEq exists_eq_left'
@[go_sem] theorem WG{p:Prop}[Decidable p]:(!decide p)=decide (¬p):=by by_cases h:p<;>simp[h]
@[go_sem] theorem WH{p q:Prop}[Decidable p][Decidable q]:(decide p&&decide q)=decide (p∧q):=by by_cases h:p<;>by_cases k:q<;>simp[h,k]
@[go_sem] theorem YT{p q:Prop}[Decidable p][Decidable q]:(decide p||decide q)=decide (p∨q):=by by_cases h:p<;>by_cases k:q<;>simp[h,k]
section
variable {z:Zx} {K:List KF} {m:Tm} {h:PT aj} {n:Nat} {p:Prop} [Decidable p]
theorem Ob{a b:Code}(h1: ¬ p→iZ z a K m h n)(h2:p→iZ z b K m h n):DK z (.bool (decide (¬p))) a b K m h n:=by
 by_cases hp:p
 ·simpa [hp,tW] using h2 hp
 ·simpa [hp,xA] using h1 hp
theorem KB{a b:Code}{t:Bool}(h1:t=false→iZ z a K m h n)(h2:t=true→iZ z b K m h n):DK z (.bool !t) a b K m h n:=by
 cases t
 ·exact xA.2 (h1 rfl)
 ·exact tW.2 (h2 rfl)
theorem Oc{o:Oper}{ops r:List Oper}{t:Bool}(h1:t=true→lQ z true o ops r K m h n)(h2:t=false→lQ z false o ops r K m h n):lQ z t o ops r K m h n:=by
 cases t<;>first|exact h1 rfl|exact h2 rfl
theorem KC{o:Oper}{ops r:List Oper}{t:Bool}(h1:t=false→lQ z true o ops r K m h n)(h2:t=true→lQ z false o ops r K m h n):lQ z (!t) o ops r K m h n:=by
 cases t<;>first|exact h1 rfl|exact h2 rfl
theorem Od{L:List (Nat×Nat)}{o:Oper}{ops r:List Oper}{fs:List bO}{t:Bool}(h1:t=true→lS z L true o ops r K m h n fs)(h2:t=false→lS z L false o ops r K m h n fs):lS z L t o ops r K m h n fs:=by
 cases t<;>first|exact h1 rfl|exact h2 rfl
theorem KD{L:List (Nat×Nat)}{o:Oper}{ops r:List Oper}{fs:List bO}{t:Bool}(h1:t=false→lS z L true o ops r K m h n fs)(h2:t=true→lS z L false o ops r K m h n fs):lS z L (!t) o ops r K m h n fs:=by
 cases t<;>first|exact h1 rfl|exact h2 rfl
theorem Oe{o:Oper}{ops r:List Oper}(h1: ¬ p→lQ z true o ops r K m h n)(h2:p→lQ z false o ops r K m h n):lQ z (decide (¬p)) o ops r K m h n:=by
 by_cases hp:p
 ·simpa [hp] using h2 hp
 ·simpa [hp] using h1 hp
theorem Og{L:List (Nat×Nat)}{o:Oper}{ops r:List Oper}{fs:List bO}(h1: ¬ p→lS z L true o ops r K m h n fs)(h2:p→lS z L false o ops r K m h n fs):lS z L (decide (¬p)) o ops r K m h n fs:=by
 by_cases hp:p
 ·simpa [hp] using h2 hp
 ·simpa [hp] using h1 hp
end
attribute [go_sem] not_true_eq_false not_false_eq_true false_and and_false true_or or_true false_or or_false Decidable.not_not
section ops
variable {P:Program} {ρ:Operand→Value} {d:Option Tmp} {ty:TypeId} {pos:String} {af:Array Edge} {g:Option (Nat×Bool)}
@[go_sem] theorem ad0{sz by' zl len cap:Nat}{base:Option Addr}{x:Value}{fb:AP aG}:apQ (some (sz,by',zl)) (.slice base len cap) x fb=((iG sz x).bind fun p=>Ky sz by' zl base len cap p.1 p.2).bind fun v => .pure (.value v):=rfl
@[go_sem] theorem YU{sz n c:Nat}:iG sz (.slice none n c) = .pure (n,[]):=rfl
def fsB(off k n:Nat):aj→AP (Nat×List Value)
 | .cells c _=>match aW c off k with |some l => .pure (n,l) |none => .fail "cells"
 | _ => .fail "cells"
@[go_sem] theorem xI{sz b off n c:Nat}{sp:Option Nat}:iG sz (.slice (some ⟨b,off,sp⟩) n c) = .get b (fsB off (n*sz) n):=rfl
@[go_sem] theorem BI{off k n:Nat}{L:List Value}{ro:Bool}:fsB off k n (.cells (PT.ofList .leaf 0 L) ro)=cond (Nat.ble (off+k) L.length||Nat.beq k 0) (.pure (n,(L.drop off).take k)) (.fail "cells"):=by
 simp only[fsB,dU];cases (Nat.ble (off+k) L.length||Nat.beq k 0)<;>rfl
@[go_sem] theorem abH{s by' zl len cap n:Nat}{new:List Value}:Ky s by' zl none len cap n new=cond (Nat.beq n 0&&Nat.ble len cap&&new.isEmpty) (.pure (.slice none len cap)) (cond (Nat.ble aA cap) (.fail "append") (cond (Nat.ble (len+n) cap) (.fail "append") (oV s by' zl len n [] new))):=rfl
def YV(b off s by' zl len n:Nat)(new:List Value):aj→AP Value
 | .cells c false=>match aW c off (len*s) with
  |some old => .kill b (oV s by' zl len n old new)
  |none => .fail "append"
 | _ => .fail "append"
def Tz(b off s len cap n:Nat)(sp:Option Nat)(new:List Value):aj→AP Value
 | .cells c false=>match bN c (off+len*s) new with
  |some c' => .set b (.cells c' false) (.pure (.slice (some ⟨b,off,sp⟩) (len+n) cap))
  |none => .fail "append"
 | _ => .fail "append"
@[go_sem] theorem abI{s by' zl len cap n b off:Nat}{sp:Option Nat}{new:List Value}:Ky s by' zl (some ⟨b,off,sp⟩) len cap n new=cond (Nat.beq n 0&&Nat.ble len cap&&new.isEmpty) (.pure (.slice (some ⟨b,off,sp⟩) len cap))
  (cond (Nat.ble aA cap) (cond (Nat.beq cap (aA+s)&&new.all bw) (.get b (YV b off s by' zl len n new)) (.fail "append"))
   (cond (Nat.ble (len+n) cap) (.get b (Tz b off s len cap n sp new)) ((AP.get b (fsB off (len*s) len)).bind fun p=>oV s by' zl len n p.2 new))):=rfl
@[go_sem] theorem ad1{b off s by' zl len n:Nat}{new L:List Value}:YV b off s by' zl len n new (.cells (PT.ofList .leaf 0 L) false)=cond (Nat.ble (off+len*s) L.length||Nat.beq (len*s) 0) (.kill b (oV s by' zl len n ((L.drop off).take (len*s)) new)) (.fail "append"):=by
 simp only[YV,dU];cases (Nat.ble (off+len*s) L.length||Nat.beq (len*s) 0)<;>rfl
@[go_sem] theorem ad2{b off s len cap n:Nat}{sp:Option Nat}{new L:List Value}:Tz b off s len cap n sp new (.cells (PT.ofList .leaf 0 L) false)=cond ((Nat.ble (off+len*s+new.length) L.length||new.isEmpty)&&new.all bw) (.set b (.cells (PT.ofList .leaf 0 (rj L (off+len*s) new)) false) (.pure (.slice (some ⟨b,off,sp⟩) (len+n) cap))) (.fail "append"):=by
 simp only[Tz,je];cases ((Nat.ble (off+len*s+new.length) L.length||new.isEmpty)&&new.all bw)<;>rfl
@[go_sem] theorem abJ{s by' zl len n:Nat}{old new:List Value}:oV s by' zl len n old new=cond (Nat.ble (len+n) 1048576&&Nat.ble by' 65536&&Nat.beq zl s&&Nat.beq old.length (len*s)&&Nat.beq new.length (n*s))
  (.new (.cells (PT.ofList .leaf 0 (old++new)) false) fun id => .pure (.slice (some ⟨id,0,none⟩) (len+n) (aA+s))) (.fail "append"):=rfl
@[go_sem] theorem GU{c:Nat}(h:c<4611686018427387904):Nat.ble aA c=false:=fZ (by unfold aA;omega)
@[go_sem] theorem DV{c:Nat}:Nat.ble aA (aA+c)=true:=jd qJ
@[go_sem] theorem jH{α:Type}{f:α→Value}{l:List α}:(l.map f).take l.length=l.map f:=by rw[List.take_of_length_le (by simp)]
def snQ(u:Option TypeDesc)(neg:Bool)(x:Option Addr):AP aG:=match u with
 |some (.slice _) => .pure (.value (.bool (x.isNone^^neg)))
 | _ => .fail "equal"
section
variable {t:TypeId} {cx cy:Bool}
theorem uW{D:Nat}{x:Option Addr}{n c n' c':Nat}:cj P (D+1) t (.slice x n c) (.slice none n' c')=match P.underlying t with |some (.slice _) => .pure x.isNone | _ => .fail "equal":=by
 unfold cj;cases P.underlying t with
 |none=>cases x<;>rfl
 |some u=>cases u<;>cases x<;>rfl
@[go_sem] theorem TA{x:Option Addr}{n c n' c':Nat}:dN P .eql t cx cy (.slice x n c) (.slice none n' c')=snQ (P.underlying t) false x:=by
 have:dN P .eql t cx cy (.slice x n c) (.slice none n' c')=AP.bind ((cj P (11+1) t (.slice x n c) (.slice none n' c')).bind fun b => .pure (.bool b)) fun v => .pure (.value v):=by
  simp only[dN,eE,b9,cond_true]
 rw[this,uW];unfold snQ;cases P.underlying t with
 |none=>rfl
 |some u=>cases u<;>first|rfl | (cases x<;>rfl)
@[go_sem] theorem TB{x:Option Addr}{n c n' c':Nat}:dN P .neq t cx cy (.slice x n c) (.slice none n' c')=snQ (P.underlying t) true x:=by
 have:dN P .neq t cx cy (.slice x n c) (.slice none n' c')=AP.bind ((cj P (11+1) t (.slice x n c) (.slice none n' c')).bind fun b => .pure (.bool !b)) fun v => .pure (.value v):=by
  simp only[dN,eE,b9,cond_true]
 rw[this,uW];unfold snQ;cases P.underlying t with
 |none=>rfl
 |some u=>cases u<;>first|rfl | (cases x<;>rfl)
@[go_sem] theorem abK{e:TypeId}{neg:Bool}{x:Option Addr}:snQ (some (.slice e)) neg x = .pure (.value (.bool (x.isNone^^neg))):=rfl
theorem uX{D:Nat}{a b:Bool}:cj P (D+1) t (.bool a) (.bool b)=match P.underlying t with |some .bool => .pure (a==b) | _ => .fail "equal":=by
 unfold cj;cases P.underlying t with
 |none=>rfl
 |some u=>cases u<;>rfl
def Oh(u:Option TypeDesc)(neg:Bool)(a b:Bool):AP aG:=match u with
 |some .bool => .pure (.value (.bool ((a==b)^^neg)))
 | _ => .fail "equal"
@[go_sem] theorem TC{a b:Bool}:dN P .eql t cx cy (.bool a) (.bool b)=Oh (P.underlying t) false a b:=by
 have:dN P .eql t cx cy (.bool a) (.bool b)=AP.bind ((cj P (11+1) t (.bool a) (.bool b)).bind fun b => .pure (.bool b)) fun v => .pure (.value v):=by
  simp only[dN,eE,b9,cond_true]
 rw[this,uX];unfold Oh;cases P.underlying t with
 |none=>rfl
 |some u=>cases u<;>first|rfl | (cases a<;>cases b<;>rfl)
@[go_sem] theorem TD{a b:Bool}:dN P .neq t cx cy (.bool a) (.bool b)=Oh (P.underlying t) true a b:=by
 have:dN P .neq t cx cy (.bool a) (.bool b)=AP.bind ((cj P (11+1) t (.bool a) (.bool b)).bind fun b => .pure (.bool !b)) fun v => .pure (.value v):=by
  simp only[dN,eE,b9,cond_true]
 rw[this,uX];unfold Oh;cases P.underlying t with
 |none=>rfl
 |some u=>cases u<;>first|rfl | (cases a<;>cases b<;>rfl)
@[go_sem] theorem abL{neg a b:Bool}:Oh (some .bool) neg a b = .pure (.value (.bool ((a==b)^^neg))):=rfl
end
def TE(P:Program)(t:TypeId)(x:Value)(lo hi mx:Option Value):AP aG:=(qQ P t x lo hi mx).bind fun v => .pure (.value v)
@[go_sem] theorem abM{t:TypeId}{x:Operand}{lo hi mx:Option Operand}:k7 P ρ ⟨d,.slice t x lo hi mx,ty,pos,af,g⟩=TE P t (ρ x) (lo.map ρ) (hi.map ρ) (mx.map ρ):=rfl
def TF(a:Addr)(s len cap:Nat)(lo hi:Option Nat):AP aG:=match hi,lo with
 |some h,some l=>
  cond (Nat.ble l h&&Nat.ble h (cond (Nat.ble aA cap) len cap))
   (cond (Nat.ble aA cap) (cond (Nat.beq cap (aA+s)) (.pure (.value (.slice (some (kH a (l*s))) (h-l) cap))) (.fail "slice"))
    (.pure (.value (.slice (some (cond (Nat.beq cap l) a (kH a (l*s)))) (h-l) (cap-l))))) (.fail "slice")
 | _,_ => .fail "slice"
def slW(k:Option (Option Nat×Nat))(a:Addr)(len cap:Nat)(lo hi:Option Value):AP aG:=match k with
 |some (none,s)=>TF a s len cap (fq 0 lo) (fq len hi)
 | _ => .fail "slice"
@[go_sem] theorem KG{t:TypeId}{a:Addr}{len cap:Nat}{lo hi:Option Value}:TE P t (.slice (some a) len cap) lo hi none=slW (vV P t) a len cap lo hi:=by
 unfold TE qQ slW vV;cases P.underlying t with
 |none=>rfl
 |some u=>
  cases u with
  |slice e=>
   dsimp only;cases P.info? e with
   |none=>rfl
   |some i=>
    simp only[Option.map_some,kI,TF];cases fq len hi with
    |none=>rfl
    |some h=>cases fq 0 lo with
     |none=>rfl
     |some l=>
      dsimp only;cases (Nat.ble l h&&Nat.ble h (cond (Nat.ble aA cap) len cap)) with
      |false=>rfl
      |true=>
       simp only[cond_true];cases Nat.ble aA cap with
       |false=>rfl
       |true=>simp only[cond_true];cases Nat.beq cap (aA+i.size)<;>rfl
  |array len e=>dsimp only;cases P.info? e<;>rfl
  | _=>rfl
@[go_sem] theorem Oi{s len cap:Nat}{a:Addr}{lo hi:Option Value}:slW (some (none,s)) a len cap lo hi=TF a s len cap (fq 0 lo) (fq len hi):=rfl
@[go_sem] theorem BJ{n:Nat}:fq n none=some n:=rfl
@[go_sem] theorem BK{n:Nat}{v:Value}:fq n (some v)=asNat v:=rfl
@[go_sem] theorem ah8{b off s len l h:Nat}{sp:Option Nat}:TF ⟨b,off,sp⟩ s len (aA+s) (some l) (some h)=cond (Nat.ble l h&&Nat.ble h len) (.pure (.value (.slice (some ⟨b,off+l*s,none⟩) (h-l) (aA+s)))) (.fail "slice"):=by
 simp only[TF,DV,cond_true,oU,kH]
@[go_sem] theorem ad4{ts:List TypeId}{k k':IntKind}{a b:Int}:Kx P .min ts [.int k a,.int k' b] = .pure (.value (.int k (if b<a then b else a))):=rfl
@[go_sem] theorem ad5{ts:List TypeId}{k k':IntKind}{a b:Int}:Kx P .max ts [.int k a,.int k' b] = .pure (.value (.int k (if b>a then b else a))):=rfl
end ops
end Go.Am
namespace Go.Am
section
variable {z:Zx} {K:List KF} {m:Tm} {h:PT aj} {n:Nat} {p:Prop} [Decidable p] {a b:Code} {o:Oper} {ops r:List Oper} {t:Bool} {L:List (Nat×Nat)} {fs:List bO}
theorem dD(h1: ¬ p→iZ z a K m h n)(h2:p→iZ z b K m h n):DK z (.bool (decide (¬p))) a b K m h n:=Ob h1 h2
theorem dF(h1:p→iZ z a K m h n)(h2: ¬ p→iZ z b K m h n):DK z (.bool (decide p)) a b K m h n:=SR h1 h2
theorem dG(h1:t=false→iZ z a K m h n)(h2:t=true→iZ z b K m h n):DK z (.bool !t) a b K m h n:=KB h1 h2
theorem dH(h1:t=true→iZ z a K m h n)(h2:t=false→iZ z b K m h n):DK z (.bool t) a b K m h n:=DL h1 h2
theorem dI(h1: ¬ p→lQ z true o ops r K m h n)(h2:p→lQ z false o ops r K m h n):lQ z (decide (¬p)) o ops r K m h n:=Oe h1 h2
theorem dJ(h1:p→lQ z true o ops r K m h n)(h2: ¬ p→lQ z false o ops r K m h n):lQ z (decide p) o ops r K m h n:=Tg h1 h2
theorem dK(h1:t=false→lQ z true o ops r K m h n)(h2:t=true→lQ z false o ops r K m h n):lQ z (!t) o ops r K m h n:=KC h1 h2
theorem dL(h1:t=true→lQ z true o ops r K m h n)(h2:t=false→lQ z false o ops r K m h n):lQ z t o ops r K m h n:=Oc h1 h2
theorem ez(h1: ¬ p→lS z L true o ops r K m h n fs)(h2:p→lS z L false o ops r K m h n fs):lS z L (decide (¬p)) o ops r K m h n fs:=Og h1 h2
theorem eA(h1:p→lS z L true o ops r K m h n fs)(h2: ¬ p→lS z L false o ops r K m h n fs):lS z L (decide p) o ops r K m h n fs:=Ti h1 h2
theorem eB(h1:t=false→lS z L true o ops r K m h n fs)(h2:t=true→lS z L false o ops r K m h n fs):lS z L (!t) o ops r K m h n fs:=KD h1 h2
theorem eC(h1:t=true→lS z L true o ops r K m h n fs)(h2:t=false→lS z L false o ops r K m h n fs):lS z L t o ops r K m h n fs:=Od h1 h2
end
end Go.Am
