/-
  A part of the proof: contracts of inner functions.
-/
import Derived.Test.YtfhmopghjoeamaaGreatAmX6
import Derived.Test.YtfhmopghjoeamaaGreatAmX7
set_option linter.unusedSimpArgs false
set_option linter.unusedVariables false
namespace Go.Am
attribute [go_sem] List.all_cons List.all_nil Bool.and_true Bool.true_and Bool.and_false Bool.false_and Bool.or_true Bool.true_or Bool.or_false Bool.false_or Bool.not_true Bool.not_false
 Option.map_some Option.map_none List.getElem?_cons_zero List.getElem?_cons_succ List.getElem?_nil Option.getD_some List.map_cons List.map_nil List.nil_append List.cons_append List.append_nil
 List.length_cons List.length_nil List.set_cons_zero List.set_cons_succ List.drop_zero List.drop_succ_cons List.take_zero List.take_succ_cons List.drop_nil List.take_nil List.isEmpty_cons List.isEmpty_nil
 cond_true cond_false true_and and_true Option.isNone_some Option.isNone_none Bool.xor_false Bool.xor_true Bool.false_xor Bool.true_xor
 Nat.zero_add Nat.add_zero Nat.mul_one Nat.zero_mul Nat.one_mul List.length_append List.length_map List.append_assoc
 decide_true decide_false eq_self ne_eq not_true_eq_false not_false_eq_true
@[go_sem] theorem Fh (l:List Value):(⟨l⟩:Array Value).toList=l:=rfl
@[go_sem] theorem DZ (l:List Operand):(⟨l⟩:Array Operand).toList=l:=rfl
@[go_sem] theorem D1 (l:List (Nat×Operand)):(⟨l⟩:Array (Nat×Operand)).toList=l:=rfl
@[go_sem] theorem D2 (l:List TypeId):(⟨l⟩:Array TypeId).toList=l:=rfl
@[go_sem] theorem Cw (l:List Oper):(⟨l⟩:Array Oper).toList=l:=rfl
@[go_sem] theorem D3 (l:List ResultVar):(⟨l⟩:Array ResultVar).toList=l:=rfl
@[go_sem] theorem D4 (l l':List Operand):(⟨l⟩:Array Operand)++(⟨l'⟩:Array Operand)=⟨l++l'⟩:=by simp
@[go_sem] theorem Cx (x:Operand):(some x).toArray=#[x]:=rfl
@[go_sem] theorem Cy:(none:Option Operand).toArray=#[]:=rfl
@[go_sem] theorem Bo {f:Operand} {as:Array Operand} {ts:Array TypeId}:(⟨.value f,as,ts⟩:Call).operands=#[f]++as:=rfl
@[go_sem] theorem z_ {b:Builtin} {as:Array Operand} {ts:Array TypeId}:(⟨.builtin b,as,ts⟩:Call).operands=as:=by simp[Call.operands]
def qQ (o:Option Value) (r:Option (List Value)):Option (List Value):=match o,r with
 |some v,some l=>some (v::l)
 | _,_=>none
@[go_sem] theorem Cz {v:Value} {l:List Value}:qQ (some v) (some l)=some (v::l):=rfl
section
variable {P:Program} {m:Tm} {h:PT ak}
@[go_sem] theorem Jw:g_ P m h []=some []:=rfl
@[go_sem] theorem Jx {t:Tmp} {r:List ResultVar}:g_ P m h (.tmp t::r)=qQ (some (m.get t)) (g_ P m h r):=by
 rw[g_];cases g_ P m h r<;>rfl
@[go_sem] theorem G5 {a:Tmp} {t:TypeId} {r:List ResultVar}:g_ P m h (.cell a t::r)=qQ (Cg P t (m.get a) h) (g_ P m h r):=by
 rw[g_]
 cases Cg P t (m.get a) h with
 |none=>rfl
 |some v=>cases g_ P m h r<;>rfl
def Lh (g:Option Bool) (s:Option Nat) (off:Nat) (b:Option ak):Option Value:=match g,s,b with
 |some true,some s,some (.cells c _)=>(aP c off s).map fun l => .agg ⟨l⟩
 |some false,some _,some (.cells c _)=>c.get off
 | _,_,_=>none
@[go_sem] theorem Li {t:TypeId} {b off:Nat} {sp:Option Nat}:Cg P t (.pointer (some ⟨b,off,sp⟩)) h=Lh (cN P t) (cI P t) off (h.get b):=by
 unfold Cg dN Lh cN cI
 cases P.info? t with
 |none=>cases P.underlying t with
  |none=>rfl
  |some u=>simp only[Option.map_some,Option.map_none];cases isAgg u<;>rfl
 |some i=>
  cases P.underlying t with
  |none=>rfl
  |some u=>
   simp only[AP.run,Option.map_some,show ∀ m,(S0 h m).heap=h from fun _=>rfl]
   cases h.get b with
   |none=>cases isAgg u<;>rfl
   |some B=>
    simp only[show Nat.blt b 0=false from rfl,cond_false]
    cases B with
    |cells c ro=>
     cases isAgg u with
     |false=>simp only[cond_false];cases c.get off<;>rfl
     |true=>simp only[cond_true];cases aP c off i.size<;>rfl
    | _=>cases isAgg u<;>rfl
@[go_sem] theorem RZ {s off:Nat} {L:List Value} {ro:Bool}:Lh (some true) (some s) off (some (.cells (PT.ofList .leaf 0 L) ro))=cond (Nat.ble (off+s) L.length||Nat.beq s 0) (some (.agg ⟨(L.drop off).take s⟩)) none:=by
 simp only[Lh,cr];cases (Nat.ble (off+s) L.length||Nat.beq s 0)<;>rfl
@[go_sem] theorem G6 {v:Value}:oneOf [v]=v:=rfl
@[go_sem] theorem G7 {v w:Value} {l:List Value}:oneOf (v::w::l) = .tuple ⟨v::w::l⟩:=rfl
end
@[go_sem] theorem Jy {f:FuncId} {args:List Value}:iV [] f args=none:=rfl
@[go_sem] theorem G8 {g f:FuncId} {s:List Value→Option (AP Value)} {l:IQ} {args:List Value}:iV ((g,s)::l) f args=cond (Nat.beq f g) (s args) (iV l f args):=rfl
@[go_sem] theorem G9 {b:List Nat}:meets [] b=false:=rfl
@[go_sem] theorem vk {x:Nat} {a b:List Nat}:meets (x::a) b=(b.any (Nat.beq x)||meets a b):=rfl
attribute [go_sem] List.any_cons List.any_nil List.reverse_cons List.reverse_nil gx
@[go_sem] theorem Aa {lo hi:Nat}:bt [] lo hi=false:=rfl
@[go_sem] theorem mU {x lo hi:Nat} {a:List Nat}:bt (x::a) lo hi=(Nat.ble lo x&&Nat.blt x hi||bt a lo hi):=rfl
@[go_sem] theorem D5 {fs:List bD}:cB fs []=true:=rfl
def Ab (f g:Option bD):Bool:=match f,g with
 |some f,some g => !gx f g
 | _,_=>false
@[go_sem] theorem CA {fs:List bD} {i j:Nat} {L:List (Nat×Nat)}:cB fs ((i,j)::L)=(Ab fs[i]? fs[j]? && cB fs L):=rfl
@[go_sem] theorem D6 {f g:bD}:Ab (some f) (some g) = !gx f g:=rfl
section ops
variable {P:Program} {ρ:Operand→Value} {d:Option Tmp} {ty:TypeId} {pos:String} {af:Array Edge} {g:Option (Nat×Bool)}
def Ac (pl:Option (Nat×Nat)) (cells vs:List Value):Option (List Value):=match pl with
 |some (off,size)=>cond (Nat.beq vs.length size&&Nat.ble (off+vs.length) cells.length) (some (cC cells off vs)) none
 |none=>none
def D7 (place:Nat→Option (Nat×Nat)) (c:Option (List Value)) (r:List (Nat×Value)):Option (List Value):=match c with
 |some c=>dQ place c r
 |none=>none
@[go_sem] theorem G_ {place:Nat→Option (Nat×Nat)} {cells:List Value}:dQ place cells []=some cells:=rfl
@[go_sem] theorem Fi {place:Nat→Option (Nat×Nat)} {cells:List Value} {i:Nat} {v:Value} {r:List (Nat×Value)}:dQ place cells ((i,v)::r)=D7 place (Ac (place i) cells v.cells.toList) r:=by
 rw[dQ];unfold Ac
 cases place i with
 |none=>rfl
 |some p=>
  obtain⟨off,size⟩:=p
  simp only
  cases (Nat.beq v.cells.toList.length size&&Nat.ble (off+v.cells.toList.length) cells.length)<;>rfl
@[go_sem] theorem Fj {off size:Nat} {cells vs:List Value}:Ac (some (off,size)) cells vs=cond (Nat.beq vs.length size&&Nat.ble (off+vs.length) cells.length) (some (cC cells off vs)) none:=rfl
@[go_sem] theorem Fk {place:Nat→Option (Nat×Nat)} {c:List Value} {r:List (Nat×Value)}:D7 place (some c) r=dQ place c r:=rfl
@[go_sem] theorem D8 {l vs:List Value} {off:Nat}:cC l off vs=l.take off++vs++l.drop (off+vs.length):=rfl
attribute [go_sem] rep
def nk (P:Program) (t:TypeId):Option (List Value×(Nat→Option (Nat×Nat))):=
 match zeroOf P t,P.underlying t with
 |some z,some (.struct fs)=>(cD P fs.toList).map fun ps=>(z.cells.toList,(ps[·]?))
 |some z,some (.array _ e)=>(P.info? e).map fun i=>(z.cells.toList,fun j=>some (j*i.size,i.size))
 | _,_=>none
def Fl (w:String) (o:Option (List Value)):AP aC:=match o with
 |some l => .pure (.value (.agg ⟨l⟩))
 |none => .fail w
@[go_sem] theorem He {w:String} {l:List Value}:Fl w (some l) = .pure (.value (.agg ⟨l⟩)):=rfl
def OE (k:Option (List Value×(Nat→Option (Nat×Nat)))) (parts:List (Nat×Value)):AP aC:=match k with
 |some (z,pl)=>Fl "build" (dQ pl z parts)
 |none => .fail "build"
@[go_sem] theorem Jz {z:List Value} {pl:Nat→Option (Nat×Nat)} {parts:List (Nat×Value)}:OE (some (z,pl)) parts=Fl "build" (dQ pl z parts):=rfl
@[go_sem] theorem Hf {t:TypeId} {ps:Array (Nat×Operand)}:gO P ρ ⟨d,.build t ps,ty,pos,af,g⟩=OE (nk P t) (ps.toList.map fun p=>(p.1,ρ p.2)):=by
 show (nD P t _).bind _=_
 unfold nD OE nk
 generalize ps.toList.map (fun p=>(p.1,ρ p.2))=l
 cases zeroOf P t with
 |none=>rfl
 |some z=>
  cases P.underlying t with
  |none=>rfl
  |some u=>
   cases u with
   |struct fs=>
    simp only
    cases cD P fs.toList with
    |none=>rfl
    |some ps=>simp only[Option.map_some];cases dQ (ps[·]?) z.cells.toList l<;>rfl
   |array len e=>
    simp only
    cases P.info? e with
    |none=>rfl
    |some i=>simp only[Option.map_some];cases dQ (fun j=>some (j*i.size,i.size)) z.cells.toList l<;>rfl
   | _=>rfl
def ym (P:Program) (t:TypeId):Option (Nat×Nat×List Value):=
 match P.underlying t with
 |some (.slice e)=>match P.info? e,zeroOf P e with
  |some i,some z=>some (i.size,i.bytes,z.cells.toList)
  | _,_=>none
 | _=>none
def Fm (n:Nat) (o:Option (List Value)):AP aC:=match o with
 |some l => .new (.cells (PT.ofList .leaf 0 l) false) fun id => .pure (.value (.slice (some ⟨id,0,none⟩) n n))
 |none => .fail "buildSlice"
@[go_sem] theorem Hg {n:Nat} {l:List Value}:Fm n (some l) = .new (.cells (PT.ofList .leaf 0 l) false) fun id => .pure (.value (.slice (some ⟨id,0,none⟩) n n)):=rfl
def OG (k:Option (Nat×Nat×List Value)) (n:Nat) (parts:List (Nat×Value)):AP aC:=match k with
 |some (s,_,z)=>cond (Nat.ble (n*s) 16777216&&Nat.beq z.length s&&Nat.blt 0 s) (Fm n (dQ (fun j=>some (j*s,s)) (rep z n) parts)) (.fail "buildSlice")
 |none => .fail "buildSlice"
@[go_sem] theorem JA {s b n:Nat} {z:List Value} {parts:List (Nat×Value)}:OG (some (s,b,z)) n parts=cond (Nat.ble (n*s) 16777216&&Nat.beq z.length s&&Nat.blt 0 s) (Fm n (dQ (fun j=>some (j*s,s)) (rep z n) parts)) (.fail "buildSlice"):=rfl
@[go_sem] theorem Ad {t:TypeId} {n:Nat} {ps:Array (Nat×Operand)}:gO P ρ ⟨d,.buildSlice t n ps,ty,pos,af,g⟩=OG (ym P t) n (ps.toList.map fun p=>(p.1,ρ p.2)):=by
 show (eN P t n _).bind _=_
 unfold eN OG ym
 generalize ps.toList.map (fun p=>(p.1,ρ p.2))=l
 cases P.underlying t with
 |none=>rfl
 |some u=>
  cases u with
  |slice e=>
   simp only
   cases P.info? e with
   |none=>rfl
   |some i=>
    cases zeroOf P e with
    |none=>rfl
    |some z=>
     simp only
     cases (Nat.ble (n*i.size) 16777216&&Nat.beq z.cells.toList.length i.size&&Nat.blt 0 i.size) with
     |false=>rfl
     |true=>
      simp only[cond_true]
      cases dQ (fun j=>some (j*i.size,i.size)) (rep z.cells.toList n) l<;>rfl
  | _=>rfl
def OH (k:Option (Nat×Nat×List Value)) (l c:Option Nat):AP aC:=match k,l,c with
 |some (s,by',z),some l,some c=>cond (Nat.ble l c&&Nat.ble c 1048576&&Nat.ble by' 65536&&Nat.beq z.length s&&Nat.blt 0 s)
   (.new (.cells (PT.ofList .leaf 0 (rep z c)) false) fun id => .pure (.value (.slice (some ⟨id,0,none⟩) l c))) (.fail "makeSlice")
 | _,_,_ => .fail "makeSlice"
@[go_sem] theorem JB {s by' l c:Nat} {z:List Value}:OH (some (s,by',z)) (some l) (some c)=cond (Nat.ble l c&&Nat.ble c 1048576&&Nat.ble by' 65536&&Nat.beq z.length s&&Nat.blt 0 s)
   (.new (.cells (PT.ofList .leaf 0 (rep z c)) false) fun id => .pure (.value (.slice (some ⟨id,0,none⟩) l c))) (.fail "makeSlice"):=rfl
@[go_sem] theorem Bp {t:TypeId} {l c:Operand}:gO P ρ ⟨d,.makeSlice t l c,ty,pos,af,g⟩=OH (ym P t) (asNat (ρ l)) (asNat (ρ c)):=by
 show (fV P t (ρ l) (ρ c)).bind _=_
 unfold fV OH ym
 generalize asNat (ρ l)=x
 generalize asNat (ρ c)=y
 cases P.underlying t with
 |none=>rfl
 |some u=>
  cases u with
  |slice e=>
   cases x with
   |none=>dsimp only;cases P.info? e<;>cases zeroOf P e<;>rfl
   |some x=>cases y with
    |none=>dsimp only;cases P.info? e<;>cases zeroOf P e<;>rfl
    |some y=>
     dsimp only
     cases P.info? e with
     |none=>cases zeroOf P e<;>rfl
     |some i=>cases zeroOf P e with
      |none=>rfl
      |some z=>
       dsimp only
       cases (Nat.ble x y&&Nat.ble y 1048576&&Nat.ble i.bytes 65536&&Nat.beq z.cells.toList.length i.size&&Nat.blt 0 i.size)<;>rfl
  | _=>rfl
def ku (s by' zl len n:Nat) (old new:List Value):AP Value:=
 cond (Nat.ble (len+n) 1048576&&Nat.ble by' 65536&&Nat.beq zl s&&Nat.beq old.length (len*s)&&Nat.beq new.length (n*s))
  (.new (.cells (PT.ofList .leaf 0 (old++new)) false) fun id => .pure (.slice (some ⟨id,0,none⟩) (len+n) (az+s)))
  (.fail "append")
def CB (s by' zl:Nat) (base:Option Addr) (len cap n:Nat) (new:List Value):AP Value:=
 cond (Nat.beq n 0&&Nat.ble len cap&&new.isEmpty) (.pure (.slice base len cap))
 (cond (Nat.ble az cap)
  (match base with
   |some a=>cond (Nat.beq cap (az+s)&&new.all bh)
    (.get a.block fun
     | .cells c false=>match aP c a.off (len*s) with
      |some old => .kill a.block (ku s by' zl len n old new)
      |none => .fail "append"
     | _ => .fail "append") (.fail "append")
   |none => .fail "append")
  (cond (Nat.ble (len+n) cap)
   (match base with
    |some a => .get a.block fun
     | .cells c false=>match bB c (a.off+len*s) new with
      |some c' => .set a.block (.cells c' false) (.pure (.slice (some a) (len+n) cap))
      |none => .fail "append"
     | _ => .fail "append"
    |none => .fail "append")
   ((iy s (.slice base len cap)).bind fun p=>ku s by' zl len n p.2 new)))
def Ae (P:Program) (t tx:TypeId):Option (Nat×Nat×Nat):=
 match P.underlying t,P.underlying tx with
 |some (.slice _),some (.int _)=>none
 |some (.slice e),some _=>match P.info? e,zeroOf P e with
  |some i,some z=>some (i.size,i.bytes,z.cells.toList.length)
  | _,_=>none
 | _,_=>none
def OI (k:Option (Nat×Nat×Nat)) (s x:Value) (fb:AP aC):AP aC:=match k,s with
 |some (sz,by',zl),.slice base len cap=>((iy sz x).bind fun p=>CB sz by' zl base len cap p.1 p.2).bind fun v => .pure (.value v)
 |some _,_ => .fail "append"
 |none,_=>fb
@[go_sem] theorem D9 {t tx:TypeId} {s x:Value}:z8 P .append [t,tx] [s,x]=OI (Ae P t tx) s x ((jF P [t,tx] [s,x]).bind fun v => .pure (.value v)):=by
 show (jF P [t,tx] [s,x]).bind _=_
 cases hk:Ae P t tx with
 |none=>rfl
 |some k=>
  unfold Ae at hk
  split at hk
  ·simp at hk
  ·rename_i e d hni h1 h2
   split at hk
   ·rename_i i z hi hz
    simp only[Option.some.injEq] at hk
    subst hk
    unfold jF OI
    simp only[h1,h2]
    cases d with
    |int k=>exact absurd rfl (hni k)
    | _=>cases s<;>first |rfl |simp only[hi,hz];rfl
   ·simp at hk
  ·simp at hk
end ops
end Go.Am
set_option linter.unusedSimpArgs false
set_option linter.unusedVariables false
namespace Go.Am
theorem aD {P:Program} {O:Over} {f:FuncId} {fn:Func} {c:Code} {args:List Value} {h:PT ak} {n N:Nat} {R:Value→PT ak→Nat→Prop} (hf:P.funcs[f]? = some fn) (hb:fn.body=some c) (hN:args.length+(fn.ntmps-args.length)=N)
  (H:∀ z:Zx,z.P=P→z.O=O→z.ro=none→z.N=N→z.Q=Fin P fn.results.toList R→ec z c [] ⟨N,PT.ofList .leaf 0 args,[]⟩ h n):gN P O f args h n R:=by
 subst hN;exact EY hf hb H
@[go_sem] theorem Lj {P:Program} {rs:List ResultVar} {R:Value→PT ak→Nat→Prop} {m:Tm} {h:PT ak} {n:Nat}:Fin P rs R .ret m h n↔m.gn=[]∧∃ l,g_ P m h rs=some l∧R (oneOf l) h n:=by simp[Fin]
@[go_sem] theorem Fo {P:Program} {rs:List ResultVar} {R:Value→PT ak→Nat→Prop} {m:Tm} {h:PT ak} {n:Nat}:Fin P rs R .normal m h n↔m.gn=[]∧∃ l,g_ P m h rs=some l∧R (oneOf l) h n:=by simp[Fin]
attribute [go_sem] Option.some.injEq exists_eq_left'
@[go_sem] theorem D_ {p:Prop} [Decidable p]:(!decide p)=decide (¬p):=by by_cases h:p<;>simp[h]
@[go_sem] theorem Ea {p q:Prop} [Decidable p] [Decidable q]:(decide p&&decide q)=decide (p∧q):=by by_cases h:p<;>by_cases k:q<;>simp[h,k]
@[go_sem] theorem Fp {p q:Prop} [Decidable p] [Decidable q]:(decide p||decide q)=decide (p∨q):=by by_cases h:p<;>by_cases k:q<;>simp[h,k]
section
variable {z:Zx} {K:List KF} {m:Tm} {h:PT ak} {n:Nat} {p:Prop} [Decidable p]
theorem Af {a b:Code} (h1: ¬ p→ec z a K m h n) (h2:p→ec z b K m h n):sK z (.bool (decide (¬p))) a b K m h n:=by
 by_cases hp:p
 ·simpa [hp,lK] using h2 hp
 ·simpa [hp,oz] using h1 hp
theorem xG {a b:Code} {t:Bool} (h1:t=false→ec z a K m h n) (h2:t=true→ec z b K m h n):sK z (.bool !t) a b K m h n:=by
 cases t
 ·exact oz.2 (h1 rfl)
 ·exact lK.2 (h2 rfl)
theorem Ag {o:Oper} {ops r:List Oper} {t:Bool} (h1:t=true→gP z true o ops r K m h n) (h2:t=false→gP z false o ops r K m h n):gP z t o ops r K m h n:=by
 cases t<;>first |exact h1 rfl |exact h2 rfl
theorem xH {o:Oper} {ops r:List Oper} {t:Bool} (h1:t=false→gP z true o ops r K m h n) (h2:t=true→gP z false o ops r K m h n):gP z (!t) o ops r K m h n:=by
 cases t<;>first |exact h1 rfl |exact h2 rfl
theorem Ah {L:List (Nat×Nat)} {o:Oper} {ops r:List Oper} {fs:List bD} {t:Bool} (h1:t=true→gQ z L true o ops r K m h n fs) (h2:t=false→gQ z L false o ops r K m h n fs):gQ z L t o ops r K m h n fs:=by
 cases t<;>first |exact h1 rfl |exact h2 rfl
theorem xI {L:List (Nat×Nat)} {o:Oper} {ops r:List Oper} {fs:List bD} {t:Bool} (h1:t=false→gQ z L true o ops r K m h n fs) (h2:t=true→gQ z L false o ops r K m h n fs):gQ z L (!t) o ops r K m h n fs:=by
 cases t<;>first |exact h1 rfl |exact h2 rfl
theorem Ai {o:Oper} {ops r:List Oper} (h1: ¬ p→gP z true o ops r K m h n) (h2:p→gP z false o ops r K m h n):gP z (decide (¬p)) o ops r K m h n:=by
 by_cases hp:p
 ·simpa [hp] using h2 hp
 ·simpa [hp] using h1 hp
theorem Aj {L:List (Nat×Nat)} {o:Oper} {ops r:List Oper} {fs:List bD} (h1: ¬ p→gQ z L true o ops r K m h n fs) (h2:p→gQ z L false o ops r K m h n fs):gQ z L (decide (¬p)) o ops r K m h n fs:=by
 by_cases hp:p
 ·simpa [hp] using h2 hp
 ·simpa [hp] using h1 hp
end
attribute [go_sem] not_true_eq_false not_false_eq_true false_and and_false true_or or_true false_or or_false Decidable.not_not
section ops
variable {P:Program} {ρ:Operand→Value} {d:Option Tmp} {ty:TypeId} {pos:String} {af:Array Edge} {g:Option (Nat×Bool)}
@[go_sem] theorem JC {sz by' zl len cap:Nat} {base:Option Addr} {x:Value} {fb:AP aC}:OI (some (sz,by',zl)) (.slice base len cap) x fb=((iy sz x).bind fun p=>CB sz by' zl base len cap p.1 p.2).bind fun v => .pure (.value v):=rfl
@[go_sem] theorem Fq {sz n c:Nat}:iy sz (.slice none n c) = .pure (n,[]):=rfl
def Ll (off k n:Nat):ak→AP (Nat×List Value)
 | .cells c _=>match aP c off k with |some l => .pure (n,l) |none => .fail "cells"
 | _ => .fail "cells"
@[go_sem] theorem Ft {sz b off n c:Nat} {sp:Option Nat}:iy sz (.slice (some ⟨b,off,sp⟩) n c) = .get b (Ll off (n*sz) n):=rfl
@[go_sem] theorem Lm {off k n:Nat} {L:List Value} {ro:Bool}:Ll off k n (.cells (PT.ofList .leaf 0 L) ro)=cond (Nat.ble (off+k) L.length||Nat.beq k 0) (.pure (n,(L.drop off).take k)) (.fail "cells"):=by
 simp only[Ll,cr]
 cases (Nat.ble (off+k) L.length||Nat.beq k 0)<;>rfl
@[go_sem] theorem Hh {s by' zl len cap n:Nat} {new:List Value}:CB s by' zl none len cap n new=cond (Nat.beq n 0&&Nat.ble len cap&&new.isEmpty) (.pure (.slice none len cap)) (cond (Nat.ble az cap) (.fail "append") (cond (Nat.ble (len+n) cap) (.fail "append") (ku s by' zl len n [] new))):=rfl
def Fu (b off s by' zl len n:Nat) (new:List Value):ak→AP Value
 | .cells c false=>match aP c off (len*s) with
  |some old => .kill b (ku s by' zl len n old new)
  |none => .fail "append"
 | _ => .fail "append"
def Fv (b off s len cap n:Nat) (sp:Option Nat) (new:List Value):ak→AP Value
 | .cells c false=>match bB c (off+len*s) new with
  |some c' => .set b (.cells c' false) (.pure (.slice (some ⟨b,off,sp⟩) (len+n) cap))
  |none => .fail "append"
 | _ => .fail "append"
@[go_sem] theorem Hj {s by' zl len cap n b off:Nat} {sp:Option Nat} {new:List Value}:CB s by' zl (some ⟨b,off,sp⟩) len cap n new=cond (Nat.beq n 0&&Nat.ble len cap&&new.isEmpty) (.pure (.slice (some ⟨b,off,sp⟩) len cap))
  (cond (Nat.ble az cap) (cond (Nat.beq cap (az+s)&&new.all bh) (.get b (Fu b off s by' zl len n new)) (.fail "append"))
   (cond (Nat.ble (len+n) cap) (.get b (Fv b off s len cap n sp new)) ((AP.get b (Ll off (len*s) len)).bind fun p=>ku s by' zl len n p.2 new))):=rfl
@[go_sem] theorem JD {b off s by' zl len n:Nat} {new L:List Value}:Fu b off s by' zl len n new (.cells (PT.ofList .leaf 0 L) false)=cond (Nat.ble (off+len*s) L.length||Nat.beq (len*s) 0) (.kill b (ku s by' zl len n ((L.drop off).take (len*s)) new)) (.fail "append"):=by
 simp only[Fu,cr]
 cases (Nat.ble (off+len*s) L.length||Nat.beq (len*s) 0)<;>rfl
@[go_sem] theorem JE {b off s len cap n:Nat} {sp:Option Nat} {new L:List Value}:Fv b off s len cap n sp new (.cells (PT.ofList .leaf 0 L) false)=cond ((Nat.ble (off+len*s+new.length) L.length||new.isEmpty)&&new.all bh) (.set b (.cells (PT.ofList .leaf 0 (oC L (off+len*s) new)) false) (.pure (.slice (some ⟨b,off,sp⟩) (len+n) cap))) (.fail "append"):=by
 simp only[Fv,gd]
 cases ((Nat.ble (off+len*s+new.length) L.length||new.isEmpty)&&new.all bh)<;>rfl
@[go_sem] theorem Hl {s by' zl len n:Nat} {old new:List Value}:ku s by' zl len n old new=cond (Nat.ble (len+n) 1048576&&Nat.ble by' 65536&&Nat.beq zl s&&Nat.beq old.length (len*s)&&Nat.beq new.length (n*s))
  (.new (.cells (PT.ofList .leaf 0 (old++new)) false) fun id => .pure (.slice (some ⟨id,0,none⟩) (len+n) (az+s))) (.fail "append"):=rfl
@[go_sem] theorem Fx {c:Nat} (h:c<4611686018427387904):Nat.ble az c=false:=cM (by unfold az;omega)
@[go_sem] theorem j7 {α:Type} {f:α→Value} {l:List α}:(l.map f).take l.length=l.map f:=by rw[List.take_of_length_le (by simp)]
def JF (u:Option TypeDesc) (neg:Bool) (x:Option Addr):AP aC:=match u with
 |some (.slice _) => .pure (.value (.bool (x.isNone^^neg)))
 | _ => .fail "equal"
section
variable {t:TypeId} {cx cy:Bool}
theorem mI {D:Nat} {x:Option Addr} {n c n' c':Nat}:bw P (D+1) t (.slice x n c) (.slice none n' c')=match P.underlying t with |some (.slice _) => .pure x.isNone | _ => .fail "equal":=by
 unfold bw
 cases P.underlying t with
 |none=>cases x<;>rfl
 |some u=>cases u<;>cases x<;>rfl
@[go_sem] theorem CD {x:Option Addr} {n c n' c':Nat}:cg P .eql t cx cy (.slice x n c) (.slice none n' c')=JF (P.underlying t) false x:=by
 have:cg P .eql t cx cy (.slice x n c) (.slice none n' c')=AP.bind ((bw P (11+1) t (.slice x n c) (.slice none n' c')).bind fun b => .pure (.bool b)) fun v => .pure (.value v):=by
  simp only[cg,dR,bC,cond_true]
 rw[this,mI];unfold JF
 cases P.underlying t with
 |none=>rfl
 |some u=>cases u<;>first |rfl | (cases x<;>rfl)
@[go_sem] theorem CF {x:Option Addr} {n c n' c':Nat}:cg P .neq t cx cy (.slice x n c) (.slice none n' c')=JF (P.underlying t) true x:=by
 have:cg P .neq t cx cy (.slice x n c) (.slice none n' c')=AP.bind ((bw P (11+1) t (.slice x n c) (.slice none n' c')).bind fun b => .pure (.bool !b)) fun v => .pure (.value v):=by
  simp only[cg,dR,bC,cond_true]
 rw[this,mI];unfold JF
 cases P.underlying t with
 |none=>rfl
 |some u=>cases u<;>first |rfl | (cases x<;>rfl)
@[go_sem] theorem Ho {e:TypeId} {neg:Bool} {x:Option Addr}:JF (some (.slice e)) neg x = .pure (.value (.bool (x.isNone^^neg))):=rfl
theorem mJ {D:Nat} {a b:Bool}:bw P (D+1) t (.bool a) (.bool b)=match P.underlying t with |some .bool => .pure (a==b) | _ => .fail "equal":=by
 unfold bw
 cases P.underlying t with
 |none=>rfl
 |some u=>cases u<;>rfl
def Ak (u:Option TypeDesc) (neg:Bool) (a b:Bool):AP aC:=match u with
 |some .bool => .pure (.value (.bool ((a==b)^^neg)))
 | _ => .fail "equal"
@[go_sem] theorem CG {a b:Bool}:cg P .eql t cx cy (.bool a) (.bool b)=Ak (P.underlying t) false a b:=by
 have:cg P .eql t cx cy (.bool a) (.bool b)=AP.bind ((bw P (11+1) t (.bool a) (.bool b)).bind fun b => .pure (.bool b)) fun v => .pure (.value v):=by
  simp only[cg,dR,bC,cond_true]
 rw[this,mJ];unfold Ak
 cases P.underlying t with
 |none=>rfl
 |some u=>cases u<;>first |rfl | (cases a<;>cases b<;>rfl)
@[go_sem] theorem CH {a b:Bool}:cg P .neq t cx cy (.bool a) (.bool b)=Ak (P.underlying t) true a b:=by
 have:cg P .neq t cx cy (.bool a) (.bool b)=AP.bind ((bw P (11+1) t (.bool a) (.bool b)).bind fun b => .pure (.bool !b)) fun v => .pure (.value v):=by
  simp only[cg,dR,bC,cond_true]
 rw[this,mJ];unfold Ak
 cases P.underlying t with
 |none=>rfl
 |some u=>cases u<;>first |rfl | (cases a<;>cases b<;>rfl)
@[go_sem] theorem Hp {neg a b:Bool}:Ak (some .bool) neg a b = .pure (.value (.bool ((a==b)^^neg))):=rfl
end
def Hq (P:Program) (t:TypeId) (x:Value) (lo hi mx:Option Value):AP aC:=(nG P t x lo hi mx).bind fun v => .pure (.value v)
@[go_sem] theorem Hr {t:TypeId} {x:Operand} {lo hi mx:Option Operand}:gO P ρ ⟨d,.slice t x lo hi mx,ty,pos,af,g⟩=Hq P t (ρ x) (lo.map ρ) (hi.map ρ) (mx.map ρ):=rfl
def OJ (a:Addr) (s len cap:Nat) (lo hi:Option Nat):AP aC:=match hi,lo with
 |some h,some l=>
  cond (Nat.ble l h&&Nat.ble h (cond (Nat.ble az cap) len cap))
   (cond (Nat.ble az cap) (cond (Nat.beq cap (az+s)) (.pure (.value (.slice (some (gJ a (l*s))) (h-l) cap))) (.fail "slice"))
    (.pure (.value (.slice (some (cond (Nat.beq cap l) a (gJ a (l*s)))) (h-l) (cap-l))))) (.fail "slice")
 | _,_ => .fail "slice"
def OL (k:Option (Option Nat×Nat)) (a:Addr) (len cap:Nat) (lo hi:Option Value):AP aC:=match k with
 |some (none,s)=>OJ a s len cap (cA 0 lo) (cA len hi)
 | _ => .fail "slice"
@[go_sem] theorem Hs {t:TypeId} {a:Addr} {len cap:Nat} {lo hi:Option Value}:Hq P t (.slice (some a) len cap) lo hi none=OL (vV P t) a len cap lo hi:=by
 unfold Hq nG OL vV
 cases P.underlying t with
 |none=>rfl
 |some u=>
  cases u with
  |slice e=>
   dsimp only
   cases P.info? e with
   |none=>rfl
   |some i=>
    simp only[Option.map_some,fU,OJ]
    cases cA len hi with
    |none=>rfl
    |some h=>cases cA 0 lo with
     |none=>rfl
     |some l=>
      dsimp only
      cases (Nat.ble l h&&Nat.ble h (cond (Nat.ble az cap) len cap)) with
      |false=>rfl
      |true=>
       simp only[cond_true]
       cases Nat.ble az cap with
       |false=>rfl
       |true=>simp only[cond_true];cases Nat.beq cap (az+i.size)<;>rfl
  |array len e=>dsimp only;cases P.info? e<;>rfl
  | _=>rfl
@[go_sem] theorem JG {s len cap:Nat} {a:Addr} {lo hi:Option Value}:OL (some (none,s)) a len cap lo hi=OJ a s len cap (cA 0 lo) (cA len hi):=rfl
@[go_sem] theorem CJ {n:Nat}:cA n none=some n:=rfl
@[go_sem] theorem CK {n:Nat} {v:Value}:cA n (some v)=asNat v:=rfl
@[go_sem] theorem JH {ts:List TypeId} {k k':IntKind} {a b:Int}:z8 P .min ts [.int k a,.int k' b] = .pure (.value (.int k (if b<a then b else a))):=rfl
@[go_sem] theorem JI {ts:List TypeId} {k k':IntKind} {a b:Int}:z8 P .max ts [.int k a,.int k' b] = .pure (.value (.int k (if b>a then b else a))):=rfl
end ops
end Go.Am
set_option linter.unusedSimpArgs false
set_option linter.unusedVariables false
namespace Go.Am
section
variable {z:Zx} {K:List KF} {m:Tm} {h:PT ak} {n:Nat} {p:Prop} [Decidable p] {a b:Code} {o:Oper} {ops r:List Oper} {t:Bool} {L:List (Nat×Nat)} {fs:List bD}
theorem fc (h1: ¬ p→ec z a K m h n) (h2:p→ec z b K m h n):sK z (.bool (decide (¬p))) a b K m h n:=Af h1 h2
theorem fk (h1:p→ec z a K m h n) (h2: ¬ p→ec z b K m h n):sK z (.bool (decide p)) a b K m h n:=B6 h1 h2
theorem fm (h1:t=false→ec z a K m h n) (h2:t=true→ec z b K m h n):sK z (.bool !t) a b K m h n:=xG h1 h2
theorem fq (h1:t=true→ec z a K m h n) (h2:t=false→ec z b K m h n):sK z (.bool t) a b K m h n:=sL h1 h2
theorem fA (h1: ¬ p→gP z true o ops r K m h n) (h2:p→gP z false o ops r K m h n):gP z (decide (¬p)) o ops r K m h n:=Ai h1 h2
theorem fB (h1:p→gP z true o ops r K m h n) (h2: ¬ p→gP z false o ops r K m h n):gP z (decide p) o ops r K m h n:=Cn h1 h2
theorem fC (h1:t=false→gP z true o ops r K m h n) (h2:t=true→gP z false o ops r K m h n):gP z (!t) o ops r K m h n:=xH h1 h2
theorem fD (h1:t=true→gP z true o ops r K m h n) (h2:t=false→gP z false o ops r K m h n):gP z t o ops r K m h n:=Ag h1 h2
theorem ig (h1: ¬ p→gQ z L true o ops r K m h n fs) (h2:p→gQ z L false o ops r K m h n fs):gQ z L (decide (¬p)) o ops r K m h n fs:=Aj h1 h2
theorem ij (h1:p→gQ z L true o ops r K m h n fs) (h2: ¬ p→gQ z L false o ops r K m h n fs):gQ z L (decide p) o ops r K m h n fs:=Co h1 h2
theorem iq (h1:t=false→gQ z L true o ops r K m h n fs) (h2:t=true→gQ z L false o ops r K m h n fs):gQ z L (!t) o ops r K m h n fs:=xI h1 h2
theorem iu (h1:t=true→gQ z L true o ops r K m h n fs) (h2:t=false→gQ z L false o ops r K m h n fs):gQ z L t o ops r K m h n fs:=Ah h1 h2
end
end Go.Am
