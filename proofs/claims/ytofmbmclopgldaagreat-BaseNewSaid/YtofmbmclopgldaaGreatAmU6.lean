/-
  A part of the proof: contracts of inner functions.
-/
import Derived.Test.YtofmbmclopgldaaGreatAmX6
import Derived.Test.YtofmbmclopgldaaGreatAmX7
set_option linter.unusedSimpArgs false
set_option linter.unusedVariables false
namespace Go.Am
attribute [go_sem] List.all_cons List.all_nil Bool.and_true Bool.true_and Bool.and_false Bool.false_and Bool.or_true Bool.true_or Bool.or_false Bool.false_or Bool.not_true Bool.not_false
 Option.map_some Option.map_none List.getElem?_cons_zero List.getElem?_cons_succ List.getElem?_nil Option.getD_some List.map_cons List.map_nil List.nil_append List.cons_append List.append_nil
 List.length_cons List.length_nil List.set_cons_zero List.set_cons_succ List.drop_zero List.drop_succ_cons List.take_zero List.take_succ_cons List.drop_nil List.take_nil List.isEmpty_cons List.isEmpty_nil
 cond_true cond_false true_and and_true Option.isNone_some Option.isNone_none Bool.xor_false Bool.xor_true Bool.false_xor Bool.true_xor
 Nat.zero_add Nat.add_zero Nat.mul_one Nat.zero_mul Nat.one_mul List.length_append List.length_map List.append_assoc
 decide_true decide_false eq_self ne_eq not_true_eq_false not_false_eq_true
@[go_sem] theorem N_ (l:List Value):(⟨l⟩:Array Value).toList=l:=rfl
@[go_sem] theorem Md (l:List Operand):(⟨l⟩:Array Operand).toList=l:=rfl
@[go_sem] theorem Me (l:List (Nat×Operand)):(⟨l⟩:Array (Nat×Operand)).toList=l:=rfl
@[go_sem] theorem Mf (l:List TypeId):(⟨l⟩:Array TypeId).toList=l:=rfl
@[go_sem] theorem JV (l:List Oper):(⟨l⟩:Array Oper).toList=l:=rfl
@[go_sem] theorem Mg (l:List ResultVar):(⟨l⟩:Array ResultVar).toList=l:=rfl
@[go_sem] theorem Mh (l l':List Operand):(⟨l⟩:Array Operand)++(⟨l'⟩:Array Operand)=⟨l++l'⟩:=by simp
@[go_sem] theorem JW (x:Operand):(some x).toArray=#[x]:=rfl
@[go_sem] theorem JX:(none:Option Operand).toArray=#[]:=rfl
@[go_sem] theorem IP {f:Operand} {as:Array Operand} {ts:Array TypeId}:(⟨.value f,as,ts⟩:Call).operands=#[f]++as:=rfl
@[go_sem] theorem Gb {b:Builtin} {as:Array Operand} {ts:Array TypeId}:(⟨.builtin b,as,ts⟩:Call).operands=as:=by simp[Call.operands]
def wo (o:Option Value) (r:Option (List Value)):Option (List Value):=match o,r with
 |some v,some l=>some (v::l)
 | _,_=>none
@[go_sem] theorem JY {v:Value} {l:List Value}:wo (some v) (some l)=some (v::l):=rfl
section
variable {P:Program} {m:Tm} {h:PT ak}
@[go_sem] theorem TD:jl P m h []=some []:=rfl
@[go_sem] theorem TE {t:Tmp} {r:List ResultVar}:jl P m h (.tmp t::r)=wo (some (m.get t)) (jl P m h r):=by
 rw[jl];cases jl P m h r<;>rfl
@[go_sem] theorem QZ {a:Tmp} {t:TypeId} {r:List ResultVar}:jl P m h (.cell a t::r)=wo (JI P t (m.get a) h) (jl P m h r):=by
 rw[jl]
 cases JI P t (m.get a) h with
 |none=>rfl
 |some v=>cases jl P m h r<;>rfl
def V0 (g:Option Bool) (s:Option Nat) (off:Nat) (b:Option ak):Option Value:=match g,s,b with
 |some true,some s,some (.cells c _)=>(aP c off s).map fun l => .agg ⟨l⟩
 |some false,some _,some (.cells c _)=>c.get off
 | _,_,_=>none
@[go_sem] theorem V3 {t:TypeId} {b off:Nat} {sp:Option Nat}:JI P t (.pointer (some ⟨b,off,sp⟩)) h=V0 (cq P t) (cg P t) off (h.get b):=by
 unfold JI dX V0 cq cg
 cases P.info? t with
 |none=>cases P.underlying t with
  |none=>rfl
  |some u=>simp only[Option.map_some,Option.map_none];cases isAgg u<;>rfl
 |some i=>
  cases P.underlying t with
  |none=>rfl
  |some u=>
   simp only[AP.run,Option.map_some,show ∀ m,(S0 h m).heap=h from fun _=>rfl]
   cases h.get b with
   |none=>cases isAgg u<;>rfl
   |some B=>
    simp only[show Nat.blt b 0=false from rfl,cond_false]
    cases B with
    |cells c ro=>
     cases isAgg u with
     |false=>simp only[cond_false];cases c.get off<;>rfl
     |true=>simp only[cond_true];cases aP c off i.size<;>rfl
    | _=>cases isAgg u<;>rfl
@[go_sem] theorem ad1 {s off:Nat} {L:List Value} {ro:Bool}:V0 (some true) (some s) off (some (.cells (PT.ofList .leaf 0 L) ro))=cond (Nat.ble (off+s) L.length||Nat.beq s 0) (some (.agg ⟨(L.drop off).take s⟩)) none:=by
 simp only[V0,dL];cases (Nat.ble (off+s) L.length||Nat.beq s 0)<;>rfl
@[go_sem] theorem Q5 {v:Value}:oneOf [v]=v:=rfl
@[go_sem] theorem Q6 {v w:Value} {l:List Value}:oneOf (v::w::l) = .tuple ⟨v::w::l⟩:=rfl
end
@[go_sem] theorem TF {f:FuncId} {args:List Value}:eN [] f args=none:=rfl
@[go_sem] theorem Q7 {g f:FuncId} {s:List Value→Option (AP Value)} {l:SL} {args:List Value}:eN ((g,s)::l) f args=cond (Nat.beq f g) (s args) (eN l f args):=rfl
@[go_sem] theorem Q8 {b:List Nat}:meets [] b=false:=rfl
@[go_sem] theorem AW {x:Nat} {a b:List Nat}:meets (x::a) b=(b.any (Nat.beq x)||meets a b):=rfl
attribute [go_sem] List.any_cons List.any_nil List.reverse_cons List.reverse_nil gZ
@[go_sem] theorem Gc {lo hi:Nat}:bw [] lo hi=false:=rfl
@[go_sem] theorem qV {x lo hi:Nat} {a:List Nat}:bw (x::a) lo hi=(Nat.ble lo x&&Nat.blt x hi||bw a lo hi):=rfl
@[go_sem] theorem Mi {fs:List bD}:cG fs []=true:=rfl
def Gd (f g:Option bD):Bool:=match f,g with
 |some f,some g => !gZ f g
 | _,_=>false
@[go_sem] theorem JZ {fs:List bD} {i j:Nat} {L:List (Nat×Nat)}:cG fs ((i,j)::L)=(Gd fs[i]? fs[j]? && cG fs L):=rfl
@[go_sem] theorem Mj {f g:bD}:Gd (some f) (some g) = !gZ f g:=rfl
section ops
variable {P:Program} {ρ:Operand→Value} {d:Option Tmp} {ty:TypeId} {pos:String} {af:Array Edge} {g:Option (Nat×Bool)}
def Ge (pl:Option (Nat×Nat)) (cells vs:List Value):Option (List Value):=match pl with
 |some (off,size)=>cond (Nat.beq vs.length size&&Nat.ble (off+vs.length) cells.length) (some (dQ cells off vs)) none
 |none=>none
def Ml (place:Nat→Option (Nat×Nat)) (c:Option (List Value)) (r:List (Nat×Value)):Option (List Value):=match c with
 |some c=>gi place c r
 |none=>none
@[go_sem] theorem Q9 {place:Nat→Option (Nat×Nat)} {cells:List Value}:gi place cells []=some cells:=rfl
@[go_sem] theorem Oa {place:Nat→Option (Nat×Nat)} {cells:List Value} {i:Nat} {v:Value} {r:List (Nat×Value)}:gi place cells ((i,v)::r)=Ml place (Ge (place i) cells v.cells.toList) r:=by
 rw[gi];unfold Ge
 cases place i with
 |none=>rfl
 |some p=>
  obtain⟨off,size⟩:=p
  simp only
  cases (Nat.beq v.cells.toList.length size&&Nat.ble (off+v.cells.toList.length) cells.length)<;>rfl
@[go_sem] theorem Ob {off size:Nat} {cells vs:List Value}:Ge (some (off,size)) cells vs=cond (Nat.beq vs.length size&&Nat.ble (off+vs.length) cells.length) (some (dQ cells off vs)) none:=rfl
@[go_sem] theorem Oc {place:Nat→Option (Nat×Nat)} {c:List Value} {r:List (Nat×Value)}:Ml place (some c) r=gi place c r:=rfl
@[go_sem] theorem Mm {l vs:List Value} {off:Nat}:dQ l off vs=l.take off++vs++l.drop (off+vs.length):=rfl
attribute [go_sem] rep
def k_ (P:Program) (t:TypeId):Option (List Value×(Nat→Option (Nat×Nat))):=
 match zeroOf P t,P.underlying t with
 |some z,some (.struct fs)=>(dS P fs.toList).map fun ps=>(z.cells.toList,(ps[·]?))
 |some z,some (.array _ e)=>(P.info? e).map fun i=>(z.cells.toList,fun j=>some (j*i.size,i.size))
 | _,_=>none
def Od (w:String) (o:Option (List Value)):AP aD:=match o with
 |some l => .pure (.value (.agg ⟨l⟩))
 |none => .fail w
@[go_sem] theorem Q_ {w:String} {l:List Value}:Od w (some l) = .pure (.value (.agg ⟨l⟩)):=rfl
def bdQ (k:Option (List Value×(Nat→Option (Nat×Nat)))) (parts:List (Nat×Value)):AP aD:=match k with
 |some (z,pl)=>Od "build" (gi pl z parts)
 |none => .fail "build"
@[go_sem] theorem TG {z:List Value} {pl:Nat→Option (Nat×Nat)} {parts:List (Nat×Value)}:bdQ (some (z,pl)) parts=Od "build" (gi pl z parts):=rfl
@[go_sem] theorem Ra {t:TypeId} {ps:Array (Nat×Operand)}:jk P ρ ⟨d,.build t ps,ty,pos,af,g⟩=bdQ (k_ P t) (ps.toList.map fun p=>(p.1,ρ p.2)):=by
 show (nI P t _).bind _=_
 unfold nI bdQ k_
 generalize ps.toList.map (fun p=>(p.1,ρ p.2))=l
 cases zeroOf P t with
 |none=>rfl
 |some z=>
  cases P.underlying t with
  |none=>rfl
  |some u=>
   cases u with
   |struct fs=>
    simp only
    cases dS P fs.toList with
    |none=>rfl
    |some ps=>simp only[Option.map_some];cases gi (ps[·]?) z.cells.toList l<;>rfl
   |array len e=>
    simp only
    cases P.info? e with
    |none=>rfl
    |some i=>simp only[Option.map_some];cases gi (fun j=>some (j*i.size,i.size)) z.cells.toList l<;>rfl
   | _=>rfl
def B1 (P:Program) (t:TypeId):Option (Nat×Nat×List Value):=
 match P.underlying t with
 |some (.slice e)=>match P.info? e,zeroOf P e with
  |some i,some z=>some (i.size,i.bytes,z.cells.toList)
  | _,_=>none
 | _=>none
def Oe (n:Nat) (o:Option (List Value)):AP aD:=match o with
 |some l => .new (.cells (PT.ofList .leaf 0 l) false) fun id => .pure (.value (.slice (some ⟨id,0,none⟩) n n))
 |none => .fail "buildSlice"
@[go_sem] theorem Rb {n:Nat} {l:List Value}:Oe n (some l) = .new (.cells (PT.ofList .leaf 0 l) false) fun id => .pure (.value (.slice (some ⟨id,0,none⟩) n n)):=rfl
def bsQ (k:Option (Nat×Nat×List Value)) (n:Nat) (parts:List (Nat×Value)):AP aD:=match k with
 |some (s,_,z)=>cond (Nat.ble (n*s) 16777216&&Nat.beq z.length s&&Nat.blt 0 s) (Oe n (gi (fun j=>some (j*s,s)) (rep z n) parts)) (.fail "buildSlice")
 |none => .fail "buildSlice"
@[go_sem] theorem TH {s b n:Nat} {z:List Value} {parts:List (Nat×Value)}:bsQ (some (s,b,z)) n parts=cond (Nat.ble (n*s) 16777216&&Nat.beq z.length s&&Nat.blt 0 s) (Oe n (gi (fun j=>some (j*s,s)) (rep z n) parts)) (.fail "buildSlice"):=rfl
@[go_sem] theorem Gf {t:TypeId} {n:Nat} {ps:Array (Nat×Operand)}:jk P ρ ⟨d,.buildSlice t n ps,ty,pos,af,g⟩=bsQ (B1 P t) n (ps.toList.map fun p=>(p.1,ρ p.2)):=by
 show (eu P t n _).bind _=_
 unfold eu bsQ B1
 generalize ps.toList.map (fun p=>(p.1,ρ p.2))=l
 cases P.underlying t with
 |none=>rfl
 |some u=>
  cases u with
  |slice e=>
   simp only
   cases P.info? e with
   |none=>rfl
   |some i=>
    cases zeroOf P e with
    |none=>rfl
    |some z=>
     simp only
     cases (Nat.ble (n*i.size) 16777216&&Nat.beq z.cells.toList.length i.size&&Nat.blt 0 i.size) with
     |false=>rfl
     |true=>
      simp only[cond_true]
      cases gi (fun j=>some (j*i.size,i.size)) (rep z.cells.toList n) l<;>rfl
  | _=>rfl
def msQ (k:Option (Nat×Nat×List Value)) (l c:Option Nat):AP aD:=match k,l,c with
 |some (s,by',z),some l,some c=>cond (Nat.ble l c&&Nat.ble c 1048576&&Nat.ble by' 65536&&Nat.beq z.length s&&Nat.blt 0 s)
   (.new (.cells (PT.ofList .leaf 0 (rep z c)) false) fun id => .pure (.value (.slice (some ⟨id,0,none⟩) l c))) (.fail "makeSlice")
 | _,_,_ => .fail "makeSlice"
@[go_sem] theorem TI {s by' l c:Nat} {z:List Value}:msQ (some (s,by',z)) (some l) (some c)=cond (Nat.ble l c&&Nat.ble c 1048576&&Nat.ble by' 65536&&Nat.beq z.length s&&Nat.blt 0 s)
   (.new (.cells (PT.ofList .leaf 0 (rep z c)) false) fun id => .pure (.value (.slice (some ⟨id,0,none⟩) l c))) (.fail "makeSlice"):=rfl
@[go_sem] theorem IQ {t:TypeId} {l c:Operand}:jk P ρ ⟨d,.makeSlice t l c,ty,pos,af,g⟩=msQ (B1 P t) (asNat (ρ l)) (asNat (ρ c)):=by
 show (fL P t (ρ l) (ρ c)).bind _=_
 unfold fL msQ B1
 generalize asNat (ρ l)=x
 generalize asNat (ρ c)=y
 cases P.underlying t with
 |none=>rfl
 |some u=>
  cases u with
  |slice e=>
   cases x with
   |none=>dsimp only;cases P.info? e<;>cases zeroOf P e<;>rfl
   |some x=>cases y with
    |none=>dsimp only;cases P.info? e<;>cases zeroOf P e<;>rfl
    |some y=>
     dsimp only
     cases P.info? e with
     |none=>cases zeroOf P e<;>rfl
     |some i=>cases zeroOf P e with
      |none=>rfl
      |some z=>
       dsimp only
       cases (Nat.ble x y&&Nat.ble y 1048576&&Nat.ble i.bytes 65536&&Nat.beq z.cells.toList.length i.size&&Nat.blt 0 i.size)<;>rfl
  | _=>rfl
def nU (s by' zl len n:Nat) (old new:List Value):AP Value:=
 cond (Nat.ble (len+n) 1048576&&Nat.ble by' 65536&&Nat.beq zl s&&Nat.beq old.length (len*s)&&Nat.beq new.length (n*s))
  (.new (.cells (PT.ofList .leaf 0 (old++new)) false) fun id => .pure (.slice (some ⟨id,0,none⟩) (len+n) (aB+s)))
  (.fail "append")
def J0 (s by' zl:Nat) (base:Option Addr) (len cap n:Nat) (new:List Value):AP Value:=
 cond (Nat.beq n 0&&Nat.ble len cap&&new.isEmpty) (.pure (.slice base len cap))
 (cond (Nat.ble aB cap)
  (match base with
   |some a=>cond (Nat.beq cap (aB+s)&&new.all bn)
    (.get a.block fun
     | .cells c false=>match aP c a.off (len*s) with
      |some old => .kill a.block (nU s by' zl len n old new)
      |none => .fail "append"
     | _ => .fail "append") (.fail "append")
   |none => .fail "append")
  (cond (Nat.ble (len+n) cap)
   (match base with
    |some a => .get a.block fun
     | .cells c false=>match bt c (a.off+len*s) new with
      |some c' => .set a.block (.cells c' false) (.pure (.slice (some a) (len+n) cap))
      |none => .fail "append"
     | _ => .fail "append"
    |none => .fail "append")
   ((iZ s (.slice base len cap)).bind fun p=>nU s by' zl len n p.2 new)))
def Dz (P:Program) (t tx:TypeId):Option (Nat×Nat×Nat):=
 match P.underlying t,P.underlying tx with
 |some (.slice _),some (.int _)=>none
 |some (.slice e),some _=>match P.info? e,zeroOf P e with
  |some i,some z=>some (i.size,i.bytes,z.cells.toList.length)
  | _,_=>none
 | _,_=>none
def apQ (k:Option (Nat×Nat×Nat)) (s x:Value) (fb:AP aD):AP aD:=match k,s with
 |some (sz,by',zl),.slice base len cap=>((iZ sz x).bind fun p=>J0 sz by' zl base len cap p.1 p.2).bind fun v => .pure (.value v)
 |some _,_ => .fail "append"
 |none,_=>fb
@[go_sem] theorem Mn {t tx:TypeId} {s x:Value}:Ga P .append [t,tx] [s,x]=apQ (Dz P t tx) s x ((eO P [t,tx] [s,x]).bind fun v => .pure (.value v)):=by
 show (eO P [t,tx] [s,x]).bind _=_
 cases hk:Dz P t tx with
 |none=>rfl
 |some k=>
  unfold Dz at hk
  split at hk
  ·simp at hk
  ·rename_i e d hni h1 h2
   split at hk
   ·rename_i i z hi hz
    simp only[Option.some.injEq] at hk
    subst hk
    unfold eO apQ
    simp only[h1,h2]
    cases d with
    |int k=>exact absurd rfl (hni k)
    | _=>cases s<;>first |rfl |simp only[hi,hz];rfl
   ·simp at hk
  ·simp at hk
end ops
end Go.Am
set_option linter.unusedSimpArgs false
set_option linter.unusedVariables false
namespace Go.Am
theorem ay {P:Program} {O:Over} {f:FuncId} {fn:Func} {c:Code} {args:List Value} {h:PT ak} {n N:Nat} {R:Value→PT ak→Nat→Prop} (hf:P.funcs[f]? = some fn) (hb:fn.body=some c) (hN:args.length+(fn.ntmps-args.length)=N)
  (H:∀ z:Zx,z.P=P→z.O=O→z.ro=none→z.N=N→z.Q=Fin P fn.results.toList R→fJ z c [] ⟨N,PT.ofList .leaf 0 args,[]⟩ h n):cW P O f args h n R:=by
 subst hN;exact NH hf hb H
@[go_sem] theorem V4 {P:Program} {rs:List ResultVar} {R:Value→PT ak→Nat→Prop} {m:Tm} {h:PT ak} {n:Nat}:Fin P rs R .ret m h n↔m.eS=[]∧∃ l,jl P m h rs=some l∧R (oneOf l) h n:=by simp[Fin]
@[go_sem] theorem Og {P:Program} {rs:List ResultVar} {R:Value→PT ak→Nat→Prop} {m:Tm} {h:PT ak} {n:Nat}:Fin P rs R .normal m h n↔m.eS=[]∧∃ l,jl P m h rs=some l∧R (oneOf l) h n:=by simp[Fin]
attribute [go_sem] Option.some.injEq exists_eq_left'
@[go_sem] theorem Mp {p:Prop} [Decidable p]:(!decide p)=decide (¬p):=by by_cases h:p<;>simp[h]
@[go_sem] theorem Mq {p q:Prop} [Decidable p] [Decidable q]:(decide p&&decide q)=decide (p∧q):=by by_cases h:p<;>by_cases k:q<;>simp[h,k]
@[go_sem] theorem Oh {p q:Prop} [Decidable p] [Decidable q]:(decide p||decide q)=decide (p∨q):=by by_cases h:p<;>by_cases k:q<;>simp[h,k]
section
variable {z:Zx} {K:List KF} {m:Tm} {h:PT ak} {n:Nat} {p:Prop} [Decidable p]
theorem Gg {a b:Code} (h1: ¬ p→fJ z a K m h n) (h2:p→fJ z b K m h n):yj z (.bool (decide (¬p))) a b K m h n:=by
 by_cases hp:p
 ·simpa [hp,pJ] using h2 hp
 ·simpa [hp,sL] using h1 hp
theorem DA {a b:Code} {t:Bool} (h1:t=false→fJ z a K m h n) (h2:t=true→fJ z b K m h n):yj z (.bool !t) a b K m h n:=by
 cases t
 ·exact sL.2 (h1 rfl)
 ·exact pJ.2 (h2 rfl)
theorem Gh {o:Oper} {ops r:List Oper} {t:Bool} (h1:t=true→jI z true o ops r K m h n) (h2:t=false→jI z false o ops r K m h n):jI z t o ops r K m h n:=by
 cases t<;>first |exact h1 rfl |exact h2 rfl
theorem DB {o:Oper} {ops r:List Oper} {t:Bool} (h1:t=false→jI z true o ops r K m h n) (h2:t=true→jI z false o ops r K m h n):jI z (!t) o ops r K m h n:=by
 cases t<;>first |exact h1 rfl |exact h2 rfl
theorem Gi {L:List (Nat×Nat)} {o:Oper} {ops r:List Oper} {fs:List bD} {t:Bool} (h1:t=true→jJ z L true o ops r K m h n fs) (h2:t=false→jJ z L false o ops r K m h n fs):jJ z L t o ops r K m h n fs:=by
 cases t<;>first |exact h1 rfl |exact h2 rfl
theorem DC {L:List (Nat×Nat)} {o:Oper} {ops r:List Oper} {fs:List bD} {t:Bool} (h1:t=false→jJ z L true o ops r K m h n fs) (h2:t=true→jJ z L false o ops r K m h n fs):jJ z L (!t) o ops r K m h n fs:=by
 cases t<;>first |exact h1 rfl |exact h2 rfl
theorem Gj {o:Oper} {ops r:List Oper} (h1: ¬ p→jI z true o ops r K m h n) (h2:p→jI z false o ops r K m h n):jI z (decide (¬p)) o ops r K m h n:=by
 by_cases hp:p
 ·simpa [hp] using h2 hp
 ·simpa [hp] using h1 hp
theorem Gk {L:List (Nat×Nat)} {o:Oper} {ops r:List Oper} {fs:List bD} (h1: ¬ p→jJ z L true o ops r K m h n fs) (h2:p→jJ z L false o ops r K m h n fs):jJ z L (decide (¬p)) o ops r K m h n fs:=by
 by_cases hp:p
 ·simpa [hp] using h2 hp
 ·simpa [hp] using h1 hp
end
attribute [go_sem] not_true_eq_false not_false_eq_true false_and and_false true_or or_true false_or or_false Decidable.not_not
section ops
variable {P:Program} {ρ:Operand→Value} {d:Option Tmp} {ty:TypeId} {pos:String} {af:Array Edge} {g:Option (Nat×Bool)}
@[go_sem] theorem TJ {sz by' zl len cap:Nat} {base:Option Addr} {x:Value} {fb:AP aD}:apQ (some (sz,by',zl)) (.slice base len cap) x fb=((iZ sz x).bind fun p=>J0 sz by' zl base len cap p.1 p.2).bind fun v => .pure (.value v):=rfl
@[go_sem] theorem Oi {sz n c:Nat}:iZ sz (.slice none n c) = .pure (n,[]):=rfl
def V5 (off k n:Nat):ak→AP (Nat×List Value)
 | .cells c _=>match aP c off k with |some l => .pure (n,l) |none => .fail "cells"
 | _ => .fail "cells"
@[go_sem] theorem Oj {sz b off n c:Nat} {sp:Option Nat}:iZ sz (.slice (some ⟨b,off,sp⟩) n c) = .get b (V5 off (n*sz) n):=rfl
@[go_sem] theorem V6 {off k n:Nat} {L:List Value} {ro:Bool}:V5 off k n (.cells (PT.ofList .leaf 0 L) ro)=cond (Nat.ble (off+k) L.length||Nat.beq k 0) (.pure (n,(L.drop off).take k)) (.fail "cells"):=by
 simp only[V5,dL]
 cases (Nat.ble (off+k) L.length||Nat.beq k 0)<;>rfl
@[go_sem] theorem Rc {s by' zl len cap n:Nat} {new:List Value}:J0 s by' zl none len cap n new=cond (Nat.beq n 0&&Nat.ble len cap&&new.isEmpty) (.pure (.slice none len cap)) (cond (Nat.ble aB cap) (.fail "append") (cond (Nat.ble (len+n) cap) (.fail "append") (nU s by' zl len n [] new))):=rfl
def Ol (b off s by' zl len n:Nat) (new:List Value):ak→AP Value
 | .cells c false=>match aP c off (len*s) with
  |some old => .kill b (nU s by' zl len n old new)
  |none => .fail "append"
 | _ => .fail "append"
def Om (b off s len cap n:Nat) (sp:Option Nat) (new:List Value):ak→AP Value
 | .cells c false=>match bt c (off+len*s) new with
  |some c' => .set b (.cells c' false) (.pure (.slice (some ⟨b,off,sp⟩) (len+n) cap))
  |none => .fail "append"
 | _ => .fail "append"
@[go_sem] theorem Rf {s by' zl len cap n b off:Nat} {sp:Option Nat} {new:List Value}:J0 s by' zl (some ⟨b,off,sp⟩) len cap n new=cond (Nat.beq n 0&&Nat.ble len cap&&new.isEmpty) (.pure (.slice (some ⟨b,off,sp⟩) len cap))
  (cond (Nat.ble aB cap) (cond (Nat.beq cap (aB+s)&&new.all bn) (.get b (Ol b off s by' zl len n new)) (.fail "append"))
   (cond (Nat.ble (len+n) cap) (.get b (Om b off s len cap n sp new)) ((AP.get b (V5 off (len*s) len)).bind fun p=>nU s by' zl len n p.2 new))):=rfl
@[go_sem] theorem TK {b off s by' zl len n:Nat} {new L:List Value}:Ol b off s by' zl len n new (.cells (PT.ofList .leaf 0 L) false)=cond (Nat.ble (off+len*s) L.length||Nat.beq (len*s) 0) (.kill b (nU s by' zl len n ((L.drop off).take (len*s)) new)) (.fail "append"):=by
 simp only[Ol,dL]
 cases (Nat.ble (off+len*s) L.length||Nat.beq (len*s) 0)<;>rfl
@[go_sem] theorem TL {b off s len cap n:Nat} {sp:Option Nat} {new L:List Value}:Om b off s len cap n sp new (.cells (PT.ofList .leaf 0 L) false)=cond ((Nat.ble (off+len*s+new.length) L.length||new.isEmpty)&&new.all bn) (.set b (.cells (PT.ofList .leaf 0 (sO L (off+len*s) new)) false) (.pure (.slice (some ⟨b,off,sp⟩) (len+n) cap))) (.fail "append"):=by
 simp only[Om,je]
 cases ((Nat.ble (off+len*s+new.length) L.length||new.isEmpty)&&new.all bn)<;>rfl
@[go_sem] theorem Rg {s by' zl len n:Nat} {old new:List Value}:nU s by' zl len n old new=cond (Nat.ble (len+n) 1048576&&Nat.ble by' 65536&&Nat.beq zl s&&Nat.beq old.length (len*s)&&Nat.beq new.length (n*s))
  (.new (.cells (PT.ofList .leaf 0 (old++new)) false) fun id => .pure (.slice (some ⟨id,0,none⟩) (len+n) (aB+s))) (.fail "append"):=rfl
@[go_sem] theorem Oo {c:Nat} (h:c<4611686018427387904):Nat.ble aB c=false:=ec (by unfold aB;omega)
@[go_sem] theorem nC {α:Type} {f:α→Value} {l:List α}:(l.map f).take l.length=l.map f:=by rw[List.take_of_length_le (by simp)]
def TM (u:Option TypeDesc) (neg:Bool) (x:Option Addr):AP aD:=match u with
 |some (.slice _) => .pure (.value (.bool (x.isNone^^neg)))
 | _ => .fail "equal"
section
variable {t:TypeId} {cx cy:Bool}
theorem qz {D:Nat} {x:Option Addr} {n c n' c':Nat}:bN P (D+1) t (.slice x n c) (.slice none n' c')=match P.underlying t with |some (.slice _) => .pure x.isNone | _ => .fail "equal":=by
 unfold bN
 cases P.underlying t with
 |none=>cases x<;>rfl
 |some u=>cases u<;>cases x<;>rfl
@[go_sem] theorem J1 {x:Option Addr} {n c n' c':Nat}:cY P .eql t cx cy (.slice x n c) (.slice none n' c')=TM (P.underlying t) false x:=by
 have:cY P .eql t cx cy (.slice x n c) (.slice none n' c')=AP.bind ((bN P (11+1) t (.slice x n c) (.slice none n' c')).bind fun b => .pure (.bool b)) fun v => .pure (.value v):=by
  simp only[cY,dR,bR,cond_true]
 rw[this,qz];unfold TM
 cases P.underlying t with
 |none=>rfl
 |some u=>cases u<;>first |rfl | (cases x<;>rfl)
@[go_sem] theorem J2 {x:Option Addr} {n c n' c':Nat}:cY P .neq t cx cy (.slice x n c) (.slice none n' c')=TM (P.underlying t) true x:=by
 have:cY P .neq t cx cy (.slice x n c) (.slice none n' c')=AP.bind ((bN P (11+1) t (.slice x n c) (.slice none n' c')).bind fun b => .pure (.bool !b)) fun v => .pure (.value v):=by
  simp only[cY,dR,bR,cond_true]
 rw[this,qz];unfold TM
 cases P.underlying t with
 |none=>rfl
 |some u=>cases u<;>first |rfl | (cases x<;>rfl)
@[go_sem] theorem Rh {e:TypeId} {neg:Bool} {x:Option Addr}:TM (some (.slice e)) neg x = .pure (.value (.bool (x.isNone^^neg))):=rfl
theorem qA {D:Nat} {a b:Bool}:bN P (D+1) t (.bool a) (.bool b)=match P.underlying t with |some .bool => .pure (a==b) | _ => .fail "equal":=by
 unfold bN
 cases P.underlying t with
 |none=>rfl
 |some u=>cases u<;>rfl
def Gl (u:Option TypeDesc) (neg:Bool) (a b:Bool):AP aD:=match u with
 |some .bool => .pure (.value (.bool ((a==b)^^neg)))
 | _ => .fail "equal"
@[go_sem] theorem J3 {a b:Bool}:cY P .eql t cx cy (.bool a) (.bool b)=Gl (P.underlying t) false a b:=by
 have:cY P .eql t cx cy (.bool a) (.bool b)=AP.bind ((bN P (11+1) t (.bool a) (.bool b)).bind fun b => .pure (.bool b)) fun v => .pure (.value v):=by
  simp only[cY,dR,bR,cond_true]
 rw[this,qA];unfold Gl
 cases P.underlying t with
 |none=>rfl
 |some u=>cases u<;>first |rfl | (cases a<;>cases b<;>rfl)
@[go_sem] theorem J4 {a b:Bool}:cY P .neq t cx cy (.bool a) (.bool b)=Gl (P.underlying t) true a b:=by
 have:cY P .neq t cx cy (.bool a) (.bool b)=AP.bind ((bN P (11+1) t (.bool a) (.bool b)).bind fun b => .pure (.bool !b)) fun v => .pure (.value v):=by
  simp only[cY,dR,bR,cond_true]
 rw[this,qA];unfold Gl
 cases P.underlying t with
 |none=>rfl
 |some u=>cases u<;>first |rfl | (cases a<;>cases b<;>rfl)
@[go_sem] theorem Rj {neg a b:Bool}:Gl (some .bool) neg a b = .pure (.value (.bool ((a==b)^^neg))):=rfl
end
def Rk (P:Program) (t:TypeId) (x:Value) (lo hi mx:Option Value):AP aD:=(nK P t x lo hi mx).bind fun v => .pure (.value v)
@[go_sem] theorem Rm {t:TypeId} {x:Operand} {lo hi mx:Option Operand}:jk P ρ ⟨d,.slice t x lo hi mx,ty,pos,af,g⟩=Rk P t (ρ x) (lo.map ρ) (hi.map ρ) (mx.map ρ):=rfl
def slK (a:Addr) (s len cap:Nat) (lo hi:Option Nat):AP aD:=match hi,lo with
 |some h,some l=>
  cond (Nat.ble l h&&Nat.ble h (cond (Nat.ble aB cap) len cap))
   (cond (Nat.ble aB cap) (cond (Nat.beq cap (aB+s)) (.pure (.value (.slice (some (jB a (l*s))) (h-l) cap))) (.fail "slice"))
    (.pure (.value (.slice (some (cond (Nat.beq cap l) a (jB a (l*s)))) (h-l) (cap-l))))) (.fail "slice")
 | _,_ => .fail "slice"
def slW (k:Option (Option Nat×Nat)) (a:Addr) (len cap:Nat) (lo hi:Option Value):AP aD:=match k with
 |some (none,s)=>slK a s len cap (dN 0 lo) (dN len hi)
 | _ => .fail "slice"
@[go_sem] theorem Rn {t:TypeId} {a:Addr} {len cap:Nat} {lo hi:Option Value}:Rk P t (.slice (some a) len cap) lo hi none=slW (zI P t) a len cap lo hi:=by
 unfold Rk nK slW zI
 cases P.underlying t with
 |none=>rfl
 |some u=>
  cases u with
  |slice e=>
   dsimp only
   cases P.info? e with
   |none=>rfl
   |some i=>
    simp only[Option.map_some,iX,slK]
    cases dN len hi with
    |none=>rfl
    |some h=>cases dN 0 lo with
     |none=>rfl
     |some l=>
      dsimp only
      cases (Nat.ble l h&&Nat.ble h (cond (Nat.ble aB cap) len cap)) with
      |false=>rfl
      |true=>
       simp only[cond_true]
       cases Nat.ble aB cap with
       |false=>rfl
       |true=>simp only[cond_true];cases Nat.beq cap (aB+i.size)<;>rfl
  |array len e=>dsimp only;cases P.info? e<;>rfl
  | _=>rfl
@[go_sem] theorem TN {s len cap:Nat} {a:Addr} {lo hi:Option Value}:slW (some (none,s)) a len cap lo hi=slK a s len cap (dN 0 lo) (dN len hi):=rfl
@[go_sem] theorem J5 {n:Nat}:dN n none=some n:=rfl
@[go_sem] theorem J6 {n:Nat} {v:Value}:dN n (some v)=asNat v:=rfl
@[go_sem] theorem TP {ts:List TypeId} {k k':IntKind} {a b:Int}:Ga P .min ts [.int k a,.int k' b] = .pure (.value (.int k (if b<a then b else a))):=rfl
@[go_sem] theorem TQ {ts:List TypeId} {k k':IntKind} {a b:Int}:Ga P .max ts [.int k a,.int k' b] = .pure (.value (.int k (if b>a then b else a))):=rfl
end ops
end Go.Am
set_option linter.unusedSimpArgs false
set_option linter.unusedVariables false
namespace Go.Am
section
variable {z:Zx} {K:List KF} {m:Tm} {h:PT ak} {n:Nat} {p:Prop} [Decidable p] {a b:Code} {o:Oper} {ops r:List Oper} {t:Bool} {L:List (Nat×Nat)} {fs:List bD}
theorem fV (h1: ¬ p→fJ z a K m h n) (h2:p→fJ z b K m h n):yj z (.bool (decide (¬p))) a b K m h n:=Gg h1 h2
theorem fW (h1:p→fJ z a K m h n) (h2: ¬ p→fJ z b K m h n):yj z (.bool (decide p)) a b K m h n:=Jx h1 h2
theorem fX (h1:t=false→fJ z a K m h n) (h2:t=true→fJ z b K m h n):yj z (.bool !t) a b K m h n:=DA h1 h2
theorem fY (h1:t=true→fJ z a K m h n) (h2:t=false→fJ z b K m h n):yj z (.bool t) a b K m h n:=ym h1 h2
theorem fZ (h1: ¬ p→jI z true o ops r K m h n) (h2:p→jI z false o ops r K m h n):jI z (decide (¬p)) o ops r K m h n:=Gj h1 h2
theorem f_ (h1:p→jI z true o ops r K m h n) (h2: ¬ p→jI z false o ops r K m h n):jI z (decide p) o ops r K m h n:=JM h1 h2
theorem ga (h1:t=false→jI z true o ops r K m h n) (h2:t=true→jI z false o ops r K m h n):jI z (!t) o ops r K m h n:=DB h1 h2
theorem gd (h1:t=true→jI z true o ops r K m h n) (h2:t=false→jI z false o ops r K m h n):jI z t o ops r K m h n:=Gh h1 h2
theorem iz (h1: ¬ p→jJ z L true o ops r K m h n fs) (h2:p→jJ z L false o ops r K m h n fs):jJ z L (decide (¬p)) o ops r K m h n fs:=Gk h1 h2
theorem iA (h1:p→jJ z L true o ops r K m h n fs) (h2: ¬ p→jJ z L false o ops r K m h n fs):jJ z L (decide p) o ops r K m h n fs:=JN h1 h2
theorem iB (h1:t=false→jJ z L true o ops r K m h n fs) (h2:t=true→jJ z L false o ops r K m h n fs):jJ z L (!t) o ops r K m h n fs:=DC h1 h2
theorem iC (h1:t=true→jJ z L true o ops r K m h n fs) (h2:t=false→jJ z L false o ops r K m h n fs):jJ z L t o ops r K m h n fs:=Gi h1 h2
end
end Go.Am
