/-
  A part of the proof: contracts of inner functions.
-/
import Derived.Test.YtfhmopghjoeamaaGreatAmX6
import Derived.Test.YtfhmopghjoeamaaGreatAmX7
set_option linter.unusedSimpArgs false
set_option linter.unusedVariables false
namespace Go.Am
attribute [go_sem] List.all_cons List.all_nil Bool.and_true Bool.true_and Bool.and_false Bool.false_and Bool.or_true Bool.true_or Bool.or_false Bool.false_or Bool.not_true Bool.not_false
 Option.map_some Option.map_none List.getElem?_cons_zero List.getElem?_cons_succ List.getElem?_nil Option.getD_some List.map_cons List.map_nil List.nil_append List.cons_append List.append_nil
 List.length_cons List.length_nil List.set_cons_zero List.set_cons_succ List.drop_zero List.drop_succ_cons List.take_zero List.take_succ_cons List.drop_nil List.take_nil List.isEmpty_cons List.isEmpty_nil
 cond_true cond_false true_and and_true Option.isNone_some Option.isNone_none Bool.xor_false Bool.xor_true Bool.false_xor Bool.true_xor
 Nat.zero_add Nat.add_zero Nat.mul_one Nat.zero_mul Nat.one_mul List.length_append List.length_map List.append_assoc
 decide_true decide_false eq_self ne_eq not_true_eq_false not_false_eq_true
@[go_sem] theorem Js (l:List Value):(⟨l⟩:Array Value).toList=l:=rfl
@[go_sem] theorem HB (l:List Operand):(⟨l⟩:Array Operand).toList=l:=rfl
@[go_sem] theorem HC (l:List (Nat×Operand)):(⟨l⟩:Array (Nat×Operand)).toList=l:=rfl
@[go_sem] theorem HD (l:List TypeId):(⟨l⟩:Array TypeId).toList=l:=rfl
@[go_sem] theorem Fx (l:List Oper):(⟨l⟩:Array Oper).toList=l:=rfl
@[go_sem] theorem HE (l:List ResultVar):(⟨l⟩:Array ResultVar).toList=l:=rfl
@[go_sem] theorem HF (l l':List Operand):(⟨l⟩:Array Operand)++(⟨l'⟩:Array Operand)=⟨l++l'⟩:=by simp
@[go_sem] theorem Fy (x:Operand):(some x).toArray=#[x]:=rfl
@[go_sem] theorem FA:(none:Option Operand).toArray=#[]:=rfl
@[go_sem] theorem Em {f:Operand} {as:Array Operand} {ts:Array TypeId}:(⟨.value f,as,ts⟩:Call).operands=#[f]++as:=rfl
@[go_sem] theorem CS {b:Builtin} {as:Array Operand} {ts:Array TypeId}:(⟨.builtin b,as,ts⟩:Call).operands=as:=by simp[Call.operands]
def tO (o:Option Value) (r:Option (List Value)):Option (List Value):=match o,r with
 |some v,some l=>some (v::l)
 | _,_=>none
@[go_sem] theorem FB {v:Value} {l:List Value}:tO (some v) (some l)=some (v::l):=rfl
section
variable {P:Program} {m:Tm} {h:PT aj}
@[go_sem] theorem NT:iT P m h []=some []:=rfl
@[go_sem] theorem NU {t:Tmp} {r:List ResultVar}:iT P m h (.tmp t::r)=tO (some (m.get t)) (iT P m h r):=by
 rw[iT];cases iT P m h r<;>rfl
@[go_sem] theorem Lz {a:Tmp} {t:TypeId} {r:List ResultVar}:iT P m h (.cell a t::r)=tO (Fg P t (m.get a) h) (iT P m h r):=by
 rw[iT]
 cases Fg P t (m.get a) h with
 |none=>rfl
 |some v=>cases iT P m h r<;>rfl
def Qt (g:Option Bool) (s:Option Nat) (off:Nat) (b:Option aj):Option Value:=match g,s,b with
 |some true,some s,some (.cells c _)=>(aQ c off s).map fun l => .agg ⟨l⟩
 |some false,some _,some (.cells c _)=>c.get off
 | _,_,_=>none
@[go_sem] theorem Qu {t:TypeId} {b off:Nat} {sp:Option Nat}:Fg P t (.pointer (some ⟨b,off,sp⟩)) h=Qt (cB P t) (cw P t) off (h.get b):=by
 unfold Fg eu Qt cB cw
 cases P.info? t with
 |none=>cases P.underlying t with
  |none=>rfl
  |some u=>simp only[Option.map_some,Option.map_none];cases isAgg u<;>rfl
 |some i=>
  cases P.underlying t with
  |none=>rfl
  |some u=>
   simp only[AP.run,Option.map_some,show ∀ m,(S0 h m).heap=h from fun _=>rfl]
   cases h.get b with
   |none=>cases isAgg u<;>rfl
   |some B=>
    simp only[show Nat.blt b 0=false from rfl,cond_false]
    cases B with
    |cells c ro=>
     cases isAgg u with
     |false=>simp only[cond_false];cases c.get off<;>rfl
     |true=>simp only[cond_true];cases aQ c off i.size<;>rfl
    | _=>cases isAgg u<;>rfl
@[go_sem] theorem XY {s off:Nat} {L:List Value} {ro:Bool}:Qt (some true) (some s) off (some (.cells (PT.ofList .leaf 0 L) ro))=cond (Nat.ble (off+s) L.length||Nat.beq s 0) (some (.agg ⟨(L.drop off).take s⟩)) none:=by
 simp only[Qt,cN];cases (Nat.ble (off+s) L.length||Nat.beq s 0)<;>rfl
@[go_sem] theorem LA {v:Value}:oneOf [v]=v:=rfl
@[go_sem] theorem LB {v w:Value} {l:List Value}:oneOf (v::w::l) = .tuple ⟨v::w::l⟩:=rfl
end
@[go_sem] theorem NV {f:FuncId} {args:List Value}:jD [] f args=none:=rfl
@[go_sem] theorem LC {g f:FuncId} {s:List Value→Option (AP Value)} {l:Na} {args:List Value}:jD ((g,s)::l) f args=cond (Nat.beq f g) (s args) (jD l f args):=rfl
@[go_sem] theorem LD {b:List Nat}:meets [] b=false:=rfl
@[go_sem] theorem xU {x:Nat} {a b:List Nat}:meets (x::a) b=(b.any (Nat.beq x)||meets a b):=rfl
attribute [go_sem] List.any_cons List.any_nil List.reverse_cons List.reverse_nil gX
@[go_sem] theorem CT {lo hi:Nat}:bD [] lo hi=false:=rfl
@[go_sem] theorem oS {x lo hi:Nat} {a:List Nat}:bD (x::a) lo hi=(Nat.ble lo x&&Nat.blt x hi||bD a lo hi):=rfl
@[go_sem] theorem HG {fs:List bI}:cQ fs []=true:=rfl
def CU (f g:Option bI):Bool:=match f,g with
 |some f,some g => !gX f g
 | _,_=>false
@[go_sem] theorem FC {fs:List bI} {i j:Nat} {L:List (Nat×Nat)}:cQ fs ((i,j)::L)=(CU fs[i]? fs[j]? && cQ fs L):=rfl
@[go_sem] theorem HI {f g:bI}:CU (some f) (some g) = !gX f g:=rfl
section ops
variable {P:Program} {ρ:Operand→Value} {d:Option Tmp} {ty:TypeId} {pos:String} {af:Array Edge} {g:Option (Nat×Bool)}
def CV (pl:Option (Nat×Nat)) (cells vs:List Value):Option (List Value):=match pl with
 |some (off,size)=>cond (Nat.beq vs.length size&&Nat.ble (off+vs.length) cells.length) (some (cS cells off vs)) none
 |none=>none
def HJ (place:Nat→Option (Nat×Nat)) (c:Option (List Value)) (r:List (Nat×Value)):Option (List Value):=match c with
 |some c=>eB place c r
 |none=>none
@[go_sem] theorem LG {place:Nat→Option (Nat×Nat)} {cells:List Value}:eB place cells []=some cells:=rfl
@[go_sem] theorem Jt {place:Nat→Option (Nat×Nat)} {cells:List Value} {i:Nat} {v:Value} {r:List (Nat×Value)}:eB place cells ((i,v)::r)=HJ place (CV (place i) cells v.cells.toList) r:=by
 rw[eB];unfold CV
 cases place i with
 |none=>rfl
 |some p=>
  obtain⟨off,size⟩:=p
  simp only
  cases (Nat.beq v.cells.toList.length size&&Nat.ble (off+v.cells.toList.length) cells.length)<;>rfl
@[go_sem] theorem Ju {off size:Nat} {cells vs:List Value}:CV (some (off,size)) cells vs=cond (Nat.beq vs.length size&&Nat.ble (off+vs.length) cells.length) (some (cS cells off vs)) none:=rfl
@[go_sem] theorem Jv {place:Nat→Option (Nat×Nat)} {c:List Value} {r:List (Nat×Value)}:HJ place (some c) r=eB place c r:=rfl
@[go_sem] theorem HK {l vs:List Value} {off:Nat}:cS l off vs=l.take off++vs++l.drop (off+vs.length):=rfl
attribute [go_sem] rep
def nr (P:Program) (t:TypeId):Option (List Value×(Nat→Option (Nat×Nat))):=
 match zeroOf P t,P.underlying t with
 |some z,some (.struct fs)=>(cV P fs.toList).map fun ps=>(z.cells.toList,(ps[·]?))
 |some z,some (.array _ e)=>(P.info? e).map fun i=>(z.cells.toList,fun j=>some (j*i.size,i.size))
 | _,_=>none
def Jw (w:String) (o:Option (List Value)):AP aE:=match o with
 |some l => .pure (.value (.agg ⟨l⟩))
 |none => .fail w
@[go_sem] theorem LH {w:String} {l:List Value}:Jw w (some l) = .pure (.value (.agg ⟨l⟩)):=rfl
def Ul (k:Option (List Value×(Nat→Option (Nat×Nat)))) (parts:List (Nat×Value)):AP aE:=match k with
 |some (z,pl)=>Jw "build" (eB pl z parts)
 |none => .fail "build"
@[go_sem] theorem NW {z:List Value} {pl:Nat→Option (Nat×Nat)} {parts:List (Nat×Value)}:Ul (some (z,pl)) parts=Jw "build" (eB pl z parts):=rfl
@[go_sem] theorem LI {t:TypeId} {ps:Array (Nat×Operand)}:iE P ρ ⟨d,.build t ps,ty,pos,af,g⟩=Ul (nr P t) (ps.toList.map fun p=>(p.1,ρ p.2)):=by
 show (pG P t _).bind _=_
 unfold pG Ul nr
 generalize ps.toList.map (fun p=>(p.1,ρ p.2))=l
 cases zeroOf P t with
 |none=>rfl
 |some z=>
  cases P.underlying t with
  |none=>rfl
  |some u=>
   cases u with
   |struct fs=>
    simp only
    cases cV P fs.toList with
    |none=>rfl
    |some ps=>simp only[Option.map_some];cases eB (ps[·]?) z.cells.toList l<;>rfl
   |array len e=>
    simp only
    cases P.info? e with
    |none=>rfl
    |some i=>simp only[Option.map_some];cases eB (fun j=>some (j*i.size,i.size)) z.cells.toList l<;>rfl
   | _=>rfl
def A5 (P:Program) (t:TypeId):Option (Nat×Nat×List Value):=
 match P.underlying t with
 |some (.slice e)=>match P.info? e,zeroOf P e with
  |some i,some z=>some (i.size,i.bytes,z.cells.toList)
  | _,_=>none
 | _=>none
def Jx (n:Nat) (o:Option (List Value)):AP aE:=match o with
 |some l => .new (.cells (PT.ofList .leaf 0 l) false) fun id => .pure (.value (.slice (some ⟨id,0,none⟩) n n))
 |none => .fail "buildSlice"
@[go_sem] theorem LJ {n:Nat} {l:List Value}:Jx n (some l) = .new (.cells (PT.ofList .leaf 0 l) false) fun id => .pure (.value (.slice (some ⟨id,0,none⟩) n n)):=rfl
def Um (k:Option (Nat×Nat×List Value)) (n:Nat) (parts:List (Nat×Value)):AP aE:=match k with
 |some (s,_,z)=>cond (Nat.ble (n*s) 16777216&&Nat.beq z.length s&&Nat.blt 0 s) (Jx n (eB (fun j=>some (j*s,s)) (rep z n) parts)) (.fail "buildSlice")
 |none => .fail "buildSlice"
@[go_sem] theorem NY {s b n:Nat} {z:List Value} {parts:List (Nat×Value)}:Um (some (s,b,z)) n parts=cond (Nat.ble (n*s) 16777216&&Nat.beq z.length s&&Nat.blt 0 s) (Jx n (eB (fun j=>some (j*s,s)) (rep z n) parts)) (.fail "buildSlice"):=rfl
@[go_sem] theorem CW {t:TypeId} {n:Nat} {ps:Array (Nat×Operand)}:iE P ρ ⟨d,.buildSlice t n ps,ty,pos,af,g⟩=Um (A5 P t) n (ps.toList.map fun p=>(p.1,ρ p.2)):=by
 show (fE P t n _).bind _=_
 unfold fE Um A5
 generalize ps.toList.map (fun p=>(p.1,ρ p.2))=l
 cases P.underlying t with
 |none=>rfl
 |some u=>
  cases u with
  |slice e=>
   simp only
   cases P.info? e with
   |none=>rfl
   |some i=>
    cases zeroOf P e with
    |none=>rfl
    |some z=>
     simp only
     cases (Nat.ble (n*i.size) 16777216&&Nat.beq z.cells.toList.length i.size&&Nat.blt 0 i.size) with
     |false=>rfl
     |true=>
      simp only[cond_true]
      cases eB (fun j=>some (j*i.size,i.size)) (rep z.cells.toList n) l<;>rfl
  | _=>rfl
def Un (k:Option (Nat×Nat×List Value)) (l c:Option Nat):AP aE:=match k,l,c with
 |some (s,by',z),some l,some c=>cond (Nat.ble l c&&Nat.ble c 1048576&&Nat.ble by' 65536&&Nat.beq z.length s&&Nat.blt 0 s)
   (.new (.cells (PT.ofList .leaf 0 (rep z c)) false) fun id => .pure (.value (.slice (some ⟨id,0,none⟩) l c))) (.fail "makeSlice")
 | _,_,_ => .fail "makeSlice"
@[go_sem] theorem NZ {s by' l c:Nat} {z:List Value}:Un (some (s,by',z)) (some l) (some c)=cond (Nat.ble l c&&Nat.ble c 1048576&&Nat.ble by' 65536&&Nat.beq z.length s&&Nat.blt 0 s)
   (.new (.cells (PT.ofList .leaf 0 (rep z c)) false) fun id => .pure (.value (.slice (some ⟨id,0,none⟩) l c))) (.fail "makeSlice"):=rfl
@[go_sem] theorem En {t:TypeId} {l c:Operand}:iE P ρ ⟨d,.makeSlice t l c,ty,pos,af,g⟩=Un (A5 P t) (asNat (ρ l)) (asNat (ρ c)):=by
 show (gF P t (ρ l) (ρ c)).bind _=_
 unfold gF Un A5
 generalize asNat (ρ l)=x
 generalize asNat (ρ c)=y
 cases P.underlying t with
 |none=>rfl
 |some u=>
  cases u with
  |slice e=>
   cases x with
   |none=>dsimp only;cases P.info? e<;>cases zeroOf P e<;>rfl
   |some x=>cases y with
    |none=>dsimp only;cases P.info? e<;>cases zeroOf P e<;>rfl
    |some y=>
     dsimp only
     cases P.info? e with
     |none=>cases zeroOf P e<;>rfl
     |some i=>cases zeroOf P e with
      |none=>rfl
      |some z=>
       dsimp only
       cases (Nat.ble x y&&Nat.ble y 1048576&&Nat.ble i.bytes 65536&&Nat.beq z.cells.toList.length i.size&&Nat.blt 0 i.size)<;>rfl
  | _=>rfl
def lK (s by' zl len n:Nat) (old new:List Value):AP Value:=
 cond (Nat.ble (len+n) 1048576&&Nat.ble by' 65536&&Nat.beq zl s&&Nat.beq old.length (len*s)&&Nat.beq new.length (n*s))
  (.new (.cells (PT.ofList .leaf 0 (old++new)) false) fun id => .pure (.slice (some ⟨id,0,none⟩) (len+n) (aA+s)))
  (.fail "append")
def FD (s by' zl:Nat) (base:Option Addr) (len cap n:Nat) (new:List Value):AP Value:=
 cond (Nat.beq n 0&&Nat.ble len cap&&new.isEmpty) (.pure (.slice base len cap))
 (cond (Nat.ble aA cap)
  (match base with
   |some a=>cond (Nat.beq cap (aA+s)&&new.all br)
    (.get a.block fun
     | .cells c false=>match aQ c a.off (len*s) with
      |some old => .kill a.block (lK s by' zl len n old new)
      |none => .fail "append"
     | _ => .fail "append") (.fail "append")
   |none => .fail "append")
  (cond (Nat.ble (len+n) cap)
   (match base with
    |some a => .get a.block fun
     | .cells c false=>match bG c (a.off+len*s) new with
      |some c' => .set a.block (.cells c' false) (.pure (.slice (some a) (len+n) cap))
      |none => .fail "append"
     | _ => .fail "append"
    |none => .fail "append")
   ((i_ s (.slice base len cap)).bind fun p=>lK s by' zl len n p.2 new)))
def CX (P:Program) (t tx:TypeId):Option (Nat×Nat×Nat):=
 match P.underlying t,P.underlying tx with
 |some (.slice _),some (.int _)=>none
 |some (.slice e),some _=>match P.info? e,zeroOf P e with
  |some i,some z=>some (i.size,i.bytes,z.cells.toList.length)
  | _,_=>none
 | _,_=>none
def Uo (k:Option (Nat×Nat×Nat)) (s x:Value) (fb:AP aE):AP aE:=match k,s with
 |some (sz,by',zl),.slice base len cap=>((i_ sz x).bind fun p=>FD sz by' zl base len cap p.1 p.2).bind fun v => .pure (.value v)
 |some _,_ => .fail "append"
 |none,_=>fb
@[go_sem] theorem HL {t tx:TypeId} {s x:Value}:vl P .append [t,tx] [s,x]=Uo (CX P t tx) s x ((kD P [t,tx] [s,x]).bind fun v => .pure (.value v)):=by
 show (kD P [t,tx] [s,x]).bind _=_
 cases hk:CX P t tx with
 |none=>rfl
 |some k=>
  unfold CX at hk
  split at hk
  ·simp at hk
  ·rename_i e d hni h1 h2
   split at hk
   ·rename_i i z hi hz
    simp only[Option.some.injEq] at hk
    subst hk
    unfold kD Uo
    simp only[h1,h2]
    cases d with
    |int k=>exact absurd rfl (hni k)
    | _=>cases s<;>first |rfl |simp only[hi,hz];rfl
   ·simp at hk
  ·simp at hk
end ops
end Go.Am
set_option linter.unusedSimpArgs false
set_option linter.unusedVariables false
namespace Go.Am
theorem aB {P:Program} {O:Over} {f:FuncId} {fn:Func} {c:Code} {args:List Value} {h:PT aj} {n N:Nat} {R:Value→PT aj→Nat→Prop} (hf:P.funcs[f]? = some fn) (hb:fn.body=some c) (hN:args.length+(fn.ntmps-args.length)=N)
  (H:∀ z:Zx,z.P=P→z.O=O→z.ro=none→z.N=N→z.Q=Fin P fn.results.toList R→ez z c [] ⟨N,PT.ofList .leaf 0 args,[]⟩ h n):cT P O f args h n R:=by
 subst hN;exact I9 hf hb H
@[go_sem] theorem Qv {P:Program} {rs:List ResultVar} {R:Value→PT aj→Nat→Prop} {m:Tm} {h:PT aj} {n:Nat}:Fin P rs R .ret m h n↔m.fO=[]∧∃ l,iT P m h rs=some l∧R (oneOf l) h n:=by simp[Fin]
@[go_sem] theorem Jy {P:Program} {rs:List ResultVar} {R:Value→PT aj→Nat→Prop} {m:Tm} {h:PT aj} {n:Nat}:Fin P rs R .normal m h n↔m.fO=[]∧∃ l,iT P m h rs=some l∧R (oneOf l) h n:=by simp[Fin]
attribute [go_sem] Option.some.injEq exists_eq_left'
@[go_sem] theorem HM {p:Prop} [Decidable p]:(!decide p)=decide (¬p):=by by_cases h:p<;>simp[h]
@[go_sem] theorem HN {p q:Prop} [Decidable p] [Decidable q]:(decide p&&decide q)=decide (p∧q):=by by_cases h:p<;>by_cases k:q<;>simp[h,k]
@[go_sem] theorem Jz {p q:Prop} [Decidable p] [Decidable q]:(decide p||decide q)=decide (p∨q):=by by_cases h:p<;>by_cases k:q<;>simp[h,k]
section
variable {z:Zx} {K:List KF} {m:Tm} {h:PT aj} {n:Nat} {p:Prop} [Decidable p]
theorem CY {a b:Code} (h1: ¬ p→ez z a K m h n) (h2:p→ez z b K m h n):tI z (.bool (decide (¬p))) a b K m h n:=by
 by_cases hp:p
 ·simpa [hp,nK] using h2 hp
 ·simpa [hp,qo] using h1 hp
theorem Ai {a b:Code} {t:Bool} (h1:t=false→ez z a K m h n) (h2:t=true→ez z b K m h n):tI z (.bool !t) a b K m h n:=by
 cases t
 ·exact qo.2 (h1 rfl)
 ·exact nK.2 (h2 rfl)
theorem CZ {o:Oper} {ops r:List Oper} {t:Bool} (h1:t=true→iF z true o ops r K m h n) (h2:t=false→iF z false o ops r K m h n):iF z t o ops r K m h n:=by
 cases t<;>first |exact h1 rfl |exact h2 rfl
theorem Aj {o:Oper} {ops r:List Oper} {t:Bool} (h1:t=false→iF z true o ops r K m h n) (h2:t=true→iF z false o ops r K m h n):iF z (!t) o ops r K m h n:=by
 cases t<;>first |exact h1 rfl |exact h2 rfl
theorem C0 {L:List (Nat×Nat)} {o:Oper} {ops r:List Oper} {fs:List bI} {t:Bool} (h1:t=true→iG z L true o ops r K m h n fs) (h2:t=false→iG z L false o ops r K m h n fs):iG z L t o ops r K m h n fs:=by
 cases t<;>first |exact h1 rfl |exact h2 rfl
theorem Ak {L:List (Nat×Nat)} {o:Oper} {ops r:List Oper} {fs:List bI} {t:Bool} (h1:t=false→iG z L true o ops r K m h n fs) (h2:t=true→iG z L false o ops r K m h n fs):iG z L (!t) o ops r K m h n fs:=by
 cases t<;>first |exact h1 rfl |exact h2 rfl
theorem C7 {o:Oper} {ops r:List Oper} (h1: ¬ p→iF z true o ops r K m h n) (h2:p→iF z false o ops r K m h n):iF z (decide (¬p)) o ops r K m h n:=by
 by_cases hp:p
 ·simpa [hp] using h2 hp
 ·simpa [hp] using h1 hp
theorem C8 {L:List (Nat×Nat)} {o:Oper} {ops r:List Oper} {fs:List bI} (h1: ¬ p→iG z L true o ops r K m h n fs) (h2:p→iG z L false o ops r K m h n fs):iG z L (decide (¬p)) o ops r K m h n fs:=by
 by_cases hp:p
 ·simpa [hp] using h2 hp
 ·simpa [hp] using h1 hp
end
attribute [go_sem] not_true_eq_false not_false_eq_true false_and and_false true_or or_true false_or or_false Decidable.not_not
section ops
variable {P:Program} {ρ:Operand→Value} {d:Option Tmp} {ty:TypeId} {pos:String} {af:Array Edge} {g:Option (Nat×Bool)}
@[go_sem] theorem N6 {sz by' zl len cap:Nat} {base:Option Addr} {x:Value} {fb:AP aE}:Uo (some (sz,by',zl)) (.slice base len cap) x fb=((i_ sz x).bind fun p=>FD sz by' zl base len cap p.1 p.2).bind fun v => .pure (.value v):=rfl
@[go_sem] theorem JA {sz n c:Nat}:i_ sz (.slice none n c) = .pure (n,[]):=rfl
def Qw (off k n:Nat):aj→AP (Nat×List Value)
 | .cells c _=>match aQ c off k with |some l => .pure (n,l) |none => .fail "cells"
 | _ => .fail "cells"
@[go_sem] theorem JB {sz b off n c:Nat} {sp:Option Nat}:i_ sz (.slice (some ⟨b,off,sp⟩) n c) = .get b (Qw off (n*sz) n):=rfl
@[go_sem] theorem Qx {off k n:Nat} {L:List Value} {ro:Bool}:Qw off k n (.cells (PT.ofList .leaf 0 L) ro)=cond (Nat.ble (off+k) L.length||Nat.beq k 0) (.pure (n,(L.drop off).take k)) (.fail "cells"):=by
 simp only[Qw,cN]
 cases (Nat.ble (off+k) L.length||Nat.beq k 0)<;>rfl
@[go_sem] theorem LK {s by' zl len cap n:Nat} {new:List Value}:FD s by' zl none len cap n new=cond (Nat.beq n 0&&Nat.ble len cap&&new.isEmpty) (.pure (.slice none len cap)) (cond (Nat.ble aA cap) (.fail "append") (cond (Nat.ble (len+n) cap) (.fail "append") (lK s by' zl len n [] new))):=rfl
def JC (b off s by' zl len n:Nat) (new:List Value):aj→AP Value
 | .cells c false=>match aQ c off (len*s) with
  |some old => .kill b (lK s by' zl len n old new)
  |none => .fail "append"
 | _ => .fail "append"
def JD (b off s len cap n:Nat) (sp:Option Nat) (new:List Value):aj→AP Value
 | .cells c false=>match bG c (off+len*s) new with
  |some c' => .set b (.cells c' false) (.pure (.slice (some ⟨b,off,sp⟩) (len+n) cap))
  |none => .fail "append"
 | _ => .fail "append"
@[go_sem] theorem LL {s by' zl len cap n b off:Nat} {sp:Option Nat} {new:List Value}:FD s by' zl (some ⟨b,off,sp⟩) len cap n new=cond (Nat.beq n 0&&Nat.ble len cap&&new.isEmpty) (.pure (.slice (some ⟨b,off,sp⟩) len cap))
  (cond (Nat.ble aA cap) (cond (Nat.beq cap (aA+s)&&new.all br) (.get b (JC b off s by' zl len n new)) (.fail "append"))
   (cond (Nat.ble (len+n) cap) (.get b (JD b off s len cap n sp new)) ((AP.get b (Qw off (len*s) len)).bind fun p=>lK s by' zl len n p.2 new))):=rfl
@[go_sem] theorem N7 {b off s by' zl len n:Nat} {new L:List Value}:JC b off s by' zl len n new (.cells (PT.ofList .leaf 0 L) false)=cond (Nat.ble (off+len*s) L.length||Nat.beq (len*s) 0) (.kill b (lK s by' zl len n ((L.drop off).take (len*s)) new)) (.fail "append"):=by
 simp only[JC,cN]
 cases (Nat.ble (off+len*s) L.length||Nat.beq (len*s) 0)<;>rfl
@[go_sem] theorem N8 {b off s len cap n:Nat} {sp:Option Nat} {new L:List Value}:JD b off s len cap n sp new (.cells (PT.ofList .leaf 0 L) false)=cond ((Nat.ble (off+len*s+new.length) L.length||new.isEmpty)&&new.all br) (.set b (.cells (PT.ofList .leaf 0 (qu L (off+len*s) new)) false) (.pure (.slice (some ⟨b,off,sp⟩) (len+n) cap))) (.fail "append"):=by
 simp only[JD,gO]
 cases ((Nat.ble (off+len*s+new.length) L.length||new.isEmpty)&&new.all br)<;>rfl
@[go_sem] theorem LM {s by' zl len n:Nat} {old new:List Value}:lK s by' zl len n old new=cond (Nat.ble (len+n) 1048576&&Nat.ble by' 65536&&Nat.beq zl s&&Nat.beq old.length (len*s)&&Nat.beq new.length (n*s))
  (.new (.cells (PT.ofList .leaf 0 (old++new)) false) fun id => .pure (.slice (some ⟨id,0,none⟩) (len+n) (aA+s))) (.fail "append"):=rfl
@[go_sem] theorem JE {c:Nat} (h:c<4611686018427387904):Nat.ble aA c=false:=dr (by unfold aA;omega)
@[go_sem] theorem lq {α:Type} {f:α→Value} {l:List α}:(l.map f).take l.length=l.map f:=by rw[List.take_of_length_le (by simp)]
def N9 (u:Option TypeDesc) (neg:Bool) (x:Option Addr):AP aE:=match u with
 |some (.slice _) => .pure (.value (.bool (x.isNone^^neg)))
 | _ => .fail "equal"
section
variable {t:TypeId} {cx cy:Bool}
theorem oC {D:Nat} {x:Option Addr} {n c n' c':Nat}:bE P (D+1) t (.slice x n c) (.slice none n' c')=match P.underlying t with |some (.slice _) => .pure x.isNone | _ => .fail "equal":=by
 unfold bE
 cases P.underlying t with
 |none=>cases x<;>rfl
 |some u=>cases u<;>cases x<;>rfl
@[go_sem] theorem FE {x:Option Addr} {n c n' c':Nat}:cH P .eql t cx cy (.slice x n c) (.slice none n' c')=N9 (P.underlying t) false x:=by
 have:cH P .eql t cx cy (.slice x n c) (.slice none n' c')=AP.bind ((bE P (11+1) t (.slice x n c) (.slice none n' c')).bind fun b => .pure (.bool b)) fun v => .pure (.value v):=by
  simp only[cH,eC,bH,cond_true]
 rw[this,oC];unfold N9
 cases P.underlying t with
 |none=>rfl
 |some u=>cases u<;>first |rfl | (cases x<;>rfl)
@[go_sem] theorem FF {x:Option Addr} {n c n' c':Nat}:cH P .neq t cx cy (.slice x n c) (.slice none n' c')=N9 (P.underlying t) true x:=by
 have:cH P .neq t cx cy (.slice x n c) (.slice none n' c')=AP.bind ((bE P (11+1) t (.slice x n c) (.slice none n' c')).bind fun b => .pure (.bool !b)) fun v => .pure (.value v):=by
  simp only[cH,eC,bH,cond_true]
 rw[this,oC];unfold N9
 cases P.underlying t with
 |none=>rfl
 |some u=>cases u<;>first |rfl | (cases x<;>rfl)
@[go_sem] theorem LN {e:TypeId} {neg:Bool} {x:Option Addr}:N9 (some (.slice e)) neg x = .pure (.value (.bool (x.isNone^^neg))):=rfl
theorem oD {D:Nat} {a b:Bool}:bE P (D+1) t (.bool a) (.bool b)=match P.underlying t with |some .bool => .pure (a==b) | _ => .fail "equal":=by
 unfold bE
 cases P.underlying t with
 |none=>rfl
 |some u=>cases u<;>rfl
def C9 (u:Option TypeDesc) (neg:Bool) (a b:Bool):AP aE:=match u with
 |some .bool => .pure (.value (.bool ((a==b)^^neg)))
 | _ => .fail "equal"
@[go_sem] theorem FG {a b:Bool}:cH P .eql t cx cy (.bool a) (.bool b)=C9 (P.underlying t) false a b:=by
 have:cH P .eql t cx cy (.bool a) (.bool b)=AP.bind ((bE P (11+1) t (.bool a) (.bool b)).bind fun b => .pure (.bool b)) fun v => .pure (.value v):=by
  simp only[cH,eC,bH,cond_true]
 rw[this,oD];unfold C9
 cases P.underlying t with
 |none=>rfl
 |some u=>cases u<;>first |rfl | (cases a<;>cases b<;>rfl)
@[go_sem] theorem FH {a b:Bool}:cH P .neq t cx cy (.bool a) (.bool b)=C9 (P.underlying t) true a b:=by
 have:cH P .neq t cx cy (.bool a) (.bool b)=AP.bind ((bE P (11+1) t (.bool a) (.bool b)).bind fun b => .pure (.bool !b)) fun v => .pure (.value v):=by
  simp only[cH,eC,bH,cond_true]
 rw[this,oD];unfold C9
 cases P.underlying t with
 |none=>rfl
 |some u=>cases u<;>first |rfl | (cases a<;>cases b<;>rfl)
@[go_sem] theorem LO {neg a b:Bool}:C9 (some .bool) neg a b = .pure (.value (.bool ((a==b)^^neg))):=rfl
end
def LP (P:Program) (t:TypeId) (x:Value) (lo hi mx:Option Value):AP aE:=(pI P t x lo hi mx).bind fun v => .pure (.value v)
@[go_sem] theorem LQ {t:TypeId} {x:Operand} {lo hi mx:Option Operand}:iE P ρ ⟨d,.slice t x lo hi mx,ty,pos,af,g⟩=LP P t (ρ x) (lo.map ρ) (hi.map ρ) (mx.map ρ):=rfl
def Up (a:Addr) (s len cap:Nat) (lo hi:Option Nat):AP aE:=match hi,lo with
 |some h,some l=>
  cond (Nat.ble l h&&Nat.ble h (cond (Nat.ble aA cap) len cap))
   (cond (Nat.ble aA cap) (cond (Nat.beq cap (aA+s)) (.pure (.value (.slice (some (iy a (l*s))) (h-l) cap))) (.fail "slice"))
    (.pure (.value (.slice (some (cond (Nat.beq cap l) a (iy a (l*s)))) (h-l) (cap-l))))) (.fail "slice")
 | _,_ => .fail "slice"
def Uq (k:Option (Option Nat×Nat)) (a:Addr) (len cap:Nat) (lo hi:Option Value):AP aE:=match k with
 |some (none,s)=>Up a s len cap (cP 0 lo) (cP len hi)
 | _ => .fail "slice"
@[go_sem] theorem LR {t:TypeId} {a:Addr} {len cap:Nat} {lo hi:Option Value}:LP P t (.slice (some a) len cap) lo hi none=Uq (yQ P t) a len cap lo hi:=by
 unfold LP pI Uq yQ
 cases P.underlying t with
 |none=>rfl
 |some u=>
  cases u with
  |slice e=>
   dsimp only
   cases P.info? e with
   |none=>rfl
   |some i=>
    simp only[Option.map_some,gE,Up]
    cases cP len hi with
    |none=>rfl
    |some h=>cases cP 0 lo with
     |none=>rfl
     |some l=>
      dsimp only
      cases (Nat.ble l h&&Nat.ble h (cond (Nat.ble aA cap) len cap)) with
      |false=>rfl
      |true=>
       simp only[cond_true]
       cases Nat.ble aA cap with
       |false=>rfl
       |true=>simp only[cond_true];cases Nat.beq cap (aA+i.size)<;>rfl
  |array len e=>dsimp only;cases P.info? e<;>rfl
  | _=>rfl
@[go_sem] theorem N_ {s len cap:Nat} {a:Addr} {lo hi:Option Value}:Uq (some (none,s)) a len cap lo hi=Up a s len cap (cP 0 lo) (cP len hi):=rfl
@[go_sem] theorem FI {n:Nat}:cP n none=some n:=rfl
@[go_sem] theorem FJ {n:Nat} {v:Value}:cP n (some v)=asNat v:=rfl
@[go_sem] theorem Oa {ts:List TypeId} {k k':IntKind} {a b:Int}:vl P .min ts [.int k a,.int k' b] = .pure (.value (.int k (if b<a then b else a))):=rfl
@[go_sem] theorem Ob {ts:List TypeId} {k k':IntKind} {a b:Int}:vl P .max ts [.int k a,.int k' b] = .pure (.value (.int k (if b>a then b else a))):=rfl
end ops
end Go.Am
set_option linter.unusedSimpArgs false
set_option linter.unusedVariables false
namespace Go.Am
section
variable {z:Zx} {K:List KF} {m:Tm} {h:PT aj} {n:Nat} {p:Prop} [Decidable p] {a b:Code} {o:Oper} {ops r:List Oper} {t:Bool} {L:List (Nat×Nat)} {fs:List bI}
theorem fS (h1: ¬ p→ez z a K m h n) (h2:p→ez z b K m h n):tI z (.bool (decide (¬p))) a b K m h n:=CY h1 h2
theorem fT (h1:p→ez z a K m h n) (h2: ¬ p→ez z b K m h n):tI z (.bool (decide p)) a b K m h n:=E5 h1 h2
theorem fU (h1:t=false→ez z a K m h n) (h2:t=true→ez z b K m h n):tI z (.bool !t) a b K m h n:=Ai h1 h2
theorem fV (h1:t=true→ez z a K m h n) (h2:t=false→ez z b K m h n):tI z (.bool t) a b K m h n:=u_ h1 h2
theorem fW (h1: ¬ p→iF z true o ops r K m h n) (h2:p→iF z false o ops r K m h n):iF z (decide (¬p)) o ops r K m h n:=C7 h1 h2
theorem fX (h1:p→iF z true o ops r K m h n) (h2: ¬ p→iF z false o ops r K m h n):iF z (decide p) o ops r K m h n:=Fl h1 h2
theorem fY (h1:t=false→iF z true o ops r K m h n) (h2:t=true→iF z false o ops r K m h n):iF z (!t) o ops r K m h n:=Aj h1 h2
theorem fZ (h1:t=true→iF z true o ops r K m h n) (h2:t=false→iF z false o ops r K m h n):iF z t o ops r K m h n:=CZ h1 h2
theorem iW (h1: ¬ p→iG z L true o ops r K m h n fs) (h2:p→iG z L false o ops r K m h n fs):iG z L (decide (¬p)) o ops r K m h n fs:=C8 h1 h2
theorem iX (h1:p→iG z L true o ops r K m h n fs) (h2: ¬ p→iG z L false o ops r K m h n fs):iG z L (decide p) o ops r K m h n fs:=Fm h1 h2
theorem iY (h1:t=false→iG z L true o ops r K m h n fs) (h2:t=true→iG z L false o ops r K m h n fs):iG z L (!t) o ops r K m h n fs:=Ak h1 h2
theorem iZ (h1:t=true→iG z L true o ops r K m h n fs) (h2:t=false→iG z L false o ops r K m h n fs):iG z L t o ops r K m h n fs:=C0 h1 h2
end
end Go.Am
