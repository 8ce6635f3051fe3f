/-
A part.
-/
import Derived.Test.YtofmbmclopgldaaGreatAmX7
set_option linter.all false
noncomputable section
namespace Go.Am
open Go.RowKit
def dA(f n:Nat):List Bool:=
 Nat.rec (motive:=fun _=>Nat→List Bool) (fun _=>[]) (fun _ ih n=>Bool.rec (motive:=fun _=>List Bool) (Nat.beq (Nat.mod n 2) 1::ih (Nat.div n 2)) [] (Nat.beq n 0)) f n
theorem cF:∀ (f n:Nat),dA f n=bits f n
 |0,n=>rfl
 |f+1,n=>by
  show Bool.rec (motive:=fun _=>List Bool) (Nat.beq (Nat.mod n 2) 1::dA f (Nat.div n 2)) [] (Nat.beq n 0)=bits (f+1) n
  rw[cF f]
  conv=>rhs;rw[bits]
  cases Nat.beq n 0<;>rfl
def vI{α:Type}(l:List α):Nat→Option α:=
 List.rec (motive:=fun _=>Nat→Option α) (fun _=>none) (fun a _ ih n=>Nat.rec (motive:=fun _=>Option α) (some a) (fun m _=>ih m) n) l
theorem nQ{α:Type}:∀ (l:List α) (n:Nat),vI l n=l[n]?
 | [],n=>by simp;rfl
 |a::l,0=>by simp;rfl
 |a::l,n+1=>by
  rw[List.getElem?_cons_succ,←nQ l n];rfl
def G5(x:Nat)(b:List Nat):Bool:=List.rec (motive:=fun _=>Bool) false (fun y _ ih=>Bool.rec (motive:=fun _=>Bool) ih true (Nat.beq x y)) b
theorem BP(x:Nat):∀ b:List Nat,G5 x b=b.any (Nat.beq x)
 | []=>rfl
 |y::b=>by
  show Bool.rec (motive:=fun _=>Bool) (G5 x b) true (Nat.beq x y)=_
  rw[BP x b,List.any_cons];cases Nat.beq x y<;>rfl
def xZ(b a:List Nat):Bool:=List.rec (motive:=fun _=>Bool) false (fun x _ ih=>Bool.rec (motive:=fun _=>Bool) ih true (G5 x b)) a
theorem Au(b:List Nat):∀ a:List Nat,xZ b a=meets a b
 | []=>rfl
 |x::a=>by
  show Bool.rec (motive:=fun _=>Bool) (xZ b a) true (G5 x b)=_
  rw[Au b a,BP];unfold meets;rw[List.any_cons];cases b.any (Nat.beq x)<;>rfl
def sN(lo hi:Nat)(a:List Nat):Bool:=List.rec (motive:=fun _=>Bool) false (fun x _ ih=>Bool.rec (motive:=fun _=>Bool) ih (Bool.rec (motive:=fun _=>Bool) ih true (Nat.blt x hi)) (Nat.ble lo x)) a
theorem x6(lo hi:Nat):∀ a:List Nat,sN lo hi a=bR a lo hi
 | []=>rfl
 |x::a=>by
  show Bool.rec (motive:=fun _=>Bool) (sN lo hi a) (Bool.rec (motive:=fun _=>Bool) (sN lo hi a) true (Nat.blt x hi)) (Nat.ble lo x)=_
  rw[x6 lo hi a];unfold bR;rw[List.any_cons];cases Nat.ble lo x<;>cases Nat.blt x hi<;>rfl
def BQ(f g:bO):Bool:=
 bO.rec (motive:=fun _=>Bool) (fun lo hi rd wr=>bO.rec (motive:=fun _=>Bool) (fun _ _ rd' wr'=>
  Bool.rec (motive:=fun _=>Bool) (Bool.rec (motive:=fun _=>Bool) (Bool.rec (motive:=fun _=>Bool) (Bool.rec (motive:=fun _=>Bool) (sN lo hi wr') true (sN lo hi rd')) true (xZ wr' rd)) true (xZ rd' wr)) true (xZ wr' wr)) g) f
theorem KO(f g:bO):BQ f g=jM f g:=by
 cases f;cases g;simp only[BQ,jM,Au,x6];rename_i lo hi rd wr _ _ rd' wr';cases meets wr wr'<;>cases meets wr rd'<;>cases meets rd wr'<;>cases bR rd' lo hi<;>cases bR wr' lo hi<;>rfl
def BR(fs:List bO)(l:List (Nat×Nat)):Bool:=
 List.rec (motive:=fun _=>Bool) true (fun p _ ih=>Prod.rec (motive:=fun _=>Bool) (fun i j=>Option.rec (motive:=fun _=>Bool) false (fun f=>Option.rec (motive:=fun _=>Bool) false (fun g=>Bool.rec (motive:=fun _=>Bool) ih false (BQ f g)) (vI fs j)) (vI fs i)) p) l
theorem uh(fs:List bO):∀ l:List (Nat×Nat),BR fs l=dc fs l
 | []=>rfl
 |p::l=>by
  obtain⟨i,j⟩:=p
  show Option.rec (motive:=fun _=>Bool) false (fun f=>Option.rec (motive:=fun _=>Bool) false (fun g=>Bool.rec (motive:=fun _=>Bool) (BR fs l) false (BQ f g)) (vI fs j)) (vI fs i)=_
  rw[uh fs l];unfold dc;rw[List.all_cons];simp only[nQ,KO];cases fs[i]? with
  |none=>rfl
  |some f=>
   cases fs[j]? with
   |none=>rfl
   |some g=>
    simp only;cases jM f g<;>rfl
def G6(lim:Nat)(h:PT aj)(n:Nat)(fs:List bO):List Nat→List Nat→HS:=
 List.rec (motive:=fun _=>List Nat→List Nat→HS) (fun rd wr=>⟨h,n,rd,wr⟩) (fun f _ ih rd wr=>ih (below lim f.rd rd) (below lim f.wr wr)) fs
theorem uj(lim:Nat)(h:PT aj)(n:Nat):∀ (fs:List bO) (rd wr:List Nat),G6 lim h n fs rd wr=aT lim fs ⟨h,n,rd,wr⟩
 | [],rd,wr=>rfl
 |f::fs,rd,wr=>uj lim h n fs _ _
def G7{α:Type}(l:List α):Nat:=List.rec (motive:=fun _=>Nat) 0 (fun _ _ ih=>Nat.succ ih) l
theorem sO{α:Type}:∀ l:List α,G7 l=l.length
 | []=>rfl
 | _::l=>congrArg Nat.succ (sO l)
def KP{α:Type}(a b:List α):List α:=List.rec (motive:=fun _=>List α) b (fun x _ ih=>x::ih) a
theorem vX{α:Type}(b:List α):∀ a:List α,KP a b=a++b
 | []=>rfl
 |x::a=>congrArg (x::·) (vX b a)
def Av(l:List Nat)(n:Nat):Nat:=Option.rec (motive:=fun _=>Nat) 0 (fun x=>x) (vI l n)
theorem D4(l:List Nat)(n:Nat):Av l n=l.getD n 0:=by
 unfold Av List.getD;rw[nQ];cases l[n]? <;> rfl
def D5(acc:List Nat)(l:List Edge):Nat:=
 List.rec (motive:=fun _=>Nat) 0 (fun e _ ih=>Bool.rec (motive:=fun _=>Nat) ih (Nat.lor (Nat.lor (Nat.pow 2 e.on) (Av acc e.on)) ih) (Region.binds .any e)) l
theorem D6(acc:List Nat):∀ l:List Edge,D5 acc l=ju acc l
 | []=>rfl
 |e::l=>by
  show Bool.rec (motive:=fun _=>Nat) (D5 acc l) (Nat.lor (Nat.lor (Nat.pow 2 e.on) (Av acc e.on)) (D5 acc l)) (Region.binds .any e)=_
  rw[D6 acc l,D4]
  conv=>rhs;rw[ju]
  cases Region.binds .any e<;>rfl
def Zb(l:List Oper):List Nat→List Nat:=List.rec (motive:=fun _=>List Nat→List Nat) (fun acc=>acc) (fun o _ ih acc=>ih (KP acc [D5 acc o.after.toList])) l
theorem IB:∀ (l:List Oper) (acc:List Nat),Zb l acc=aU acc l
 | [],acc=>rfl
 |o::l,acc=>by
  show Zb l (KP acc [D5 acc o.after.toList])=_
  rw[IB l,vX,D6];rfl
def TY(m i:Nat):Bool:=Bool.rec (motive:=fun _=>Bool) true false (Nat.beq (Nat.land 1 (Nat.shiftRight m i)) 0)
theorem T0(m i:Nat):TY m i=m.testBit i:=by
 unfold TY Nat.testBit
 show _ = !(Nat.land 1 (Nat.shiftRight m i)==0)
 cases h:Nat.beq (Nat.land 1 (Nat.shiftRight m i)) 0 with
 |true=>have:=Nat.eq_of_beq_eq_true h;rw[this];rfl
 |false=>
  have:(Nat.land 1 (Nat.shiftRight m i)==0)=false:=by
   rw[Bool.eq_false_iff];intro e;have e:=eq_of_beq e;rw[e] at h;simp at h
  rw[this];rfl
def OE(m j k:Nat):Nat→List (Nat×Nat):=
 Nat.rec (motive:=fun _=>Nat→List (Nat×Nat)) (fun _=>[]) (fun _ ih i=>Bool.rec (motive:=fun _=>List (Nat×Nat)) ((i,j)::ih (Nat.succ i)) (ih (Nat.succ i)) (TY m i)) k
theorem IC(m j:Nat):∀ (k i:Nat),OE m j k i=((List.range' i k).filter fun i => !m.testBit i).map fun i=>(i,j)
 |0,i=>rfl
 |k+1,i=>by
  show Bool.rec (motive:=fun _=>List (Nat×Nat)) ((i,j)::OE m j k (Nat.succ i)) (OE m j k (Nat.succ i)) (TY m i)=_
  rw[IC m j k,T0,List.range'_succ,List.filter_cons];cases m.testBit i<;>rfl
def BS(zP:List Nat)(k:Nat):Nat→List (Nat×Nat):=
 Nat.rec (motive:=fun _=>Nat→List (Nat×Nat)) (fun _=>[]) (fun _ ih j=>KP (OE (Av zP j) j j 0) (ih (Nat.succ j))) k
theorem u6(zP:List Nat):∀ (k j:Nat),aR zP j++BS zP k j=aR zP (j+k)
 |0,j=>by show aR zP j++[]=_;rw[List.append_nil];rfl
 |k+1,j=>by
  show aR zP j++KP (OE (Av zP j) j j 0) (BS zP k (Nat.succ j))=_
  rw[vX,IC,←List.append_assoc,D4];have h:=u6 zP k (j+1);rw[show j+1+k=j+(k+1) by omega] at h;rw[←h]
  congr 1
  conv=>rhs;rw[aR]
  rw[List.range_eq_range']
theorem KQ(zP:List Nat)(n:Nat):BS zP n 0=aR zP n:=by
 have:=u6 zP n 0;rw[Nat.zero_add] at this;exact this
def jW(ops:List Oper)(o:Oper):Option Nat×List Nat:=(o.dst,o.looksAt ⟨ops⟩)
def BT(a b:Option Nat×List Nat):Bool:=
 Prod.rec (motive:=fun _=>Bool) (fun d l=>Prod.rec (motive:=fun _=>Bool) (fun d' l'=>
  Bool.rec (motive:=fun _=>Bool) false (Option.rec (motive:=fun _=>Bool) true (fun x=>Bool.rec (motive:=fun _=>Bool) true false (G5 x l)) d')
   (Option.rec (motive:=fun _=>Bool) true (fun x=>Bool.rec (motive:=fun _=>Bool) (Option.rec (motive:=fun _=>Bool) true (fun y=>Bool.rec (motive:=fun _=>Bool) true false (Nat.beq y x)) d') false (G5 x l')) d)) b) a
theorem aei(x y:Nat):(x==y)=Nat.beq x y:=by
 cases h:Nat.beq x y with
 |true=>have:=Nat.eq_of_beq_eq_true h;subst this;simp
 |false=>
  rw[Bool.eq_false_iff];intro e;have e:=eq_of_beq e;subst e;simp at h
theorem BU(x:Nat)(l:List Nat):G5 x l=l.contains x:=by
 rw[BP]
 induction l with
 |nil=>rfl
 |cons y l ih=>
  rw[List.any_cons,List.contains_cons,ih,aei]
theorem KR(ops:List Oper)(x y:Oper):BT (jW ops x) (jW ops y)=Oper.apart ⟨ops⟩ x y:=by
 unfold BT jW Oper.apart;simp only[BU];cases x.dst with
 |none=>
  cases y.dst with
  |none=>rfl
  |some b=>simp only;cases (x.looksAt ⟨ops⟩).contains b<;>rfl
 |some a=>
  cases y.dst with
  |none=>simp only;cases (y.looksAt ⟨ops⟩).contains a<;>rfl
  |some b=>
   simp only;have e:(some b != some a) = !Nat.beq b a:=by rw[←aei];rfl
   rw[e];cases (y.looksAt ⟨ops⟩).contains a<;>cases Nat.beq b a<;>cases (x.looksAt ⟨ops⟩).contains b<;>rfl
def OG{α β:Type}(f:α→β)(l:List α):List β:=List.rec (motive:=fun _=>List β) [] (fun x _ ih=>f x::ih) l
theorem IE{α β:Type}(f:α→β):∀ l:List α,OG f l=l.map f
 | []=>rfl
 |x::l=>congrArg (f x::·) (IE f l)
def ya(fs:List (Option Nat×List Nat))(d:Option Nat×List Nat)(l:List (Nat×Nat)):Bool:=
 List.rec (motive:=fun _=>Bool) true (fun p _ ih=>Prod.rec (motive:=fun _=>Bool) (fun i j=>Bool.rec (motive:=fun _=>Bool) false ih (BT (Option.rec (motive:=fun _=>Option Nat×List Nat) d (fun x=>x) (vI fs i)) (Option.rec (motive:=fun _=>Option Nat×List Nat) d (fun x=>x) (vI fs j)))) p) l
theorem u7(ops:List Oper):∀ l:List (Nat×Nat),ya (OG (jW ops) ops) (jW ops default) l=vQ ops l
 | []=>rfl
 |p::l=>by
  obtain⟨i,j⟩:=p
  show Bool.rec (motive:=fun _=>Bool) false (ya (OG (jW ops) ops) (jW ops default) l) (BT _ _)=_
  rw[u7 ops l];have e:∀ i,Option.rec (motive:=fun _=>Option Nat×List Nat) (jW ops default) (fun x=>x) (vI (OG (jW ops) ops) i)=jW ops (ops.getD i default):=by
   intro i;rw[IE,nQ,List.getElem?_map];unfold List.getD;cases ops[i]? <;> rfl
  rw[e,e,KR];unfold vQ;rw[List.all_cons];cases Oper.apart ⟨ops⟩ (ops.getD i default) (ops.getD j default)<;>rfl
def G8(l:List Oper):Nat→Bool:=
 List.rec (motive:=fun _=>Nat→Bool) (fun _=>true) (fun o _ ih i=>Bool.rec (motive:=fun _=>Bool) false (ih (Nat.succ i))
  (List.rec (motive:=fun _=>Bool) true (fun e _ q=>Bool.rec (motive:=fun _=>Bool) q (Bool.rec (motive:=fun _=>Bool) false q (Nat.blt e.on i)) (Region.binds .any e)) o.after.toList)) l
theorem Aw:∀ (l:List Oper) (i:Nat),G8 l i=mZ i l
 | [],i=>rfl
 |o::l,i=>by
  have e:∀ es:List Edge,List.rec (motive:=fun _=>Bool) true (fun e _ q=>Bool.rec (motive:=fun _=>Bool) q (Bool.rec (motive:=fun _=>Bool) false q (Nat.blt e.on i)) (Region.binds .any e)) es=es.all (fun e => !Region.binds .any e||Nat.blt e.on i):=by
   intro es
   induction es with
   |nil=>rfl
   |cons a es ih=>
    show Bool.rec (motive:=fun _=>Bool) _ (Bool.rec (motive:=fun _=>Bool) false _ (Nat.blt a.on i)) (Region.binds .any a)=_
    rw[ih,List.all_cons];cases Region.binds .any a<;>cases Nat.blt a.on i<;>rfl
  show Bool.rec (motive:=fun _=>Bool) false (G8 l (Nat.succ i)) (List.rec (motive:=fun _=>Bool) true (fun e _ q=>Bool.rec (motive:=fun _=>Bool) q (Bool.rec (motive:=fun _=>Bool) false q (Nat.blt e.on i)) (Region.binds .any e)) o.after.toList)=_
  rw[Aw l,e]
  conv=>rhs;rw[mZ]
  cases o.after.toList.all (fun e => !Region.binds .any e||Nat.blt e.on i)<;>rfl
def T_(ops:List Oper):Option (List (Nat×Nat)):=
 let l:=BS (Zb ops []) (G7 ops) 0
 Bool.rec (motive:=fun _=>Option (List (Nat×Nat))) none (Bool.rec (motive:=fun _=>Option (List (Nat×Nat))) none (some l) (G8 ops 0)) (ya (OG (jW ops) ops) (jW ops default) l)
theorem IF(ops:List Oper):T_ ops=cond (g9 ops (aR (aU [] ops) ops.length)) (some (aR (aU [] ops) ops.length)) none:=by
 unfold T_ g9;simp only[u7,Aw,KQ,IB,sO];cases vQ ops (aR (aU [] ops) ops.length)<;>cases mZ 0 ops<;>rfl
def PT.k8{α:Type}(k:List Bool)(t:PT α):Option α:=
 PT.rec (motive:=fun _=>List Bool→Option α) (fun _=>none) (fun _ v _ il ir k=>List.rec (motive:=fun _=>Option α) v (fun b k' _=>Bool.rec (motive:=fun _=>Option α) (il k') (ir k') b) k) t k
theorem PT.gp{α:Type}:∀ (t:PT α) (k:List Bool),PT.k8 k t=PT.fm k t
 | .leaf,[]=>rfl
 | .leaf,_::_=>rfl
 | .node _ _ _,[]=>rfl
 | .node l _ r,true::k=>PT.gp r k
 | .node l _ r,false::k=>PT.gp l k
def PT.pq{α:Type}(k:List Bool)(v:Option α):PT α→PT α:=
 List.rec (motive:=fun _=>PT α→PT α) (fun t=>PT.rec (motive:=fun _=>PT α) (.node .leaf v .leaf) (fun l _ r _ _ => .node l v r) t)
  (fun b _ ih t=>PT.rec (motive:=fun _=>PT α) (Bool.rec (motive:=fun _=>PT α) (.node (ih .leaf) none .leaf) (.node .leaf none (ih .leaf)) b) (fun l u r _ _=>Bool.rec (motive:=fun _=>PT α) (.node (ih l) u r) (.node l u (ih r)) b) t) k
theorem PT.ey{α:Type}(v:Option α):∀ (k:List Bool) (t:PT α),PT.pq k v t=PT.dV k v t
 | [],.leaf=>rfl
 | [],.node _ _ _=>rfl
 |true::k,.leaf=>congrArg (PT.node .leaf none) (PT.ey v k .leaf)
 |false::k,.leaf=>congrArg (fun x=>PT.node x none .leaf) (PT.ey v k .leaf)
 |true::k,.node l u r=>congrArg (PT.node l u) (PT.ey v k r)
 |false::k,.node l u r=>congrArg (fun x=>PT.node x u r) (PT.ey v k l)
def Tm.k8(m:Tm)(i:Nat):Value:=Option.rec (motive:=fun _=>Value) dY (fun v=>v) (PT.k8 (dA i i) m.t)
theorem Tm.gp(m:Tm)(i:Nat):m.k8 i=m.get i:=by
 unfold Tm.k8 Tm.get;rw[PT.gp,cF]
 show _=match PT.fm (bits i i) m.t with |some v=>v |none=>dY
 cases PT.fm (bits i i) m.t<;>rfl
def vY{α:Type}(l:List α):PT α→Nat→PT α:=List.rec (motive:=fun _=>PT α→Nat→PT α) (fun t _=>t) (fun v _ ih t off=>ih (PT.pq (dA off off) (some v) t) (Nat.succ off)) l
theorem rB{α:Type}:∀ (l:List α) (t:PT α) (off:Nat),vY l t off=PT.ofList t off l
 | [],t,off=>rfl
 |v::l,t,off=>by
  show vY l (PT.pq (dA off off) (some v) t) (Nat.succ off)=_
  rw[rB l,PT.ey,cF];rfl
def OH(c:PT Value)(n:Nat):Nat→Option (List Value):=
 Nat.rec (motive:=fun _=>Nat→Option (List Value)) (fun _=>some []) (fun _ ih off=>Option.rec (motive:=fun _=>Option (List Value)) none (fun v=>Option.rec (motive:=fun _=>Option (List Value)) none (fun l=>some (v::l)) (ih (Nat.succ off))) (PT.k8 (dA off off) c)) n
theorem D7(c:PT Value):∀ (n off:Nat),OH c n off=aW c off n
 |0,off=>rfl
 |n+1,off=>by
  show Option.rec (motive:=fun _=>Option (List Value)) none (fun v=>Option.rec (motive:=fun _=>Option (List Value)) none (fun l=>some (v::l)) (OH c n (Nat.succ off))) (PT.k8 (dA off off) c)=_
  rw[D7 c n,PT.gp,cF]
  conv=>rhs;rw[aW]
  unfold PT.get;cases PT.fm (bits off off) c with
  |none=>rfl
  |some v=>simp only;cases aW c (Nat.succ off) n<;>rfl
def yc(P:Program)(t:TypeId)(x:Value):AP Value:=
 match x with
 | .pointer (some a)=>Option.rec (motive:=fun _=>AP Value) (.fail "load") (fun i=>Option.rec (motive:=fun _=>AP Value) (.fail "load") (fun d => .get a.block fun B=>aj.rec (motive:=fun _=>AP Value)
   (fun c _=>Bool.rec (motive:=fun _=>AP Value) (Option.rec (motive:=fun _=>AP Value) (.fail "load") .pure (PT.k8 (dA a.off a.off) c)) (Option.rec (motive:=fun _=>AP Value) (.fail "load") (fun l => .pure (.agg ⟨l⟩)) (OH c i.size a.off)) (isAgg d))
   (fun _ _ => .fail "load") (fun _ _ _ _ => .fail "load") (fun _ _ _ _ _ _ => .fail "load") (.fail "load") B) (P.underlying t)) (P.info? t)
 | _ => .fail "load"
theorem Ay(P:Program)(t:TypeId)(x:Value):yc P t x=fG P t x:=by
 unfold yc fG;cases x with
 |pointer a=>
  cases a with
  |none=>rfl
  |some a=>
   simp only;cases P.info? t with
   |none=>rfl
   |some i=>
    cases P.underlying t with
    |none=>rfl
    |some d=>
     simp only
     congr 1
     funext B
     cases B with
     |cells c ro=>
      simp only[PT.gp,cF,D7,PT.get];cases isAgg d with
      |false=>simp only[cond_false];cases PT.fm (bits a.off a.off) c<;>rfl
      |true=>simp only[cond_true];cases aW c a.off i.size<;>rfl
     | _=>rfl
 | _=>rfl
def G9(l:List Value):PT Value→Nat→Option (PT Value):=
 List.rec (motive:=fun _=>PT Value→Nat→Option (PT Value)) (fun c _=>some c) (fun v _ ih c off=>Option.rec (motive:=fun _=>Option (PT Value)) none (fun _=>Bool.rec (motive:=fun _=>Option (PT Value)) none (ih (PT.pq (dA off off) (some v) c) (Nat.succ off)) (bw v)) (PT.k8 (dA off off) c)) l
theorem Az:∀ (l:List Value) (c:PT Value) (off:Nat),G9 l c off=bN c off l
 | [],c,off=>rfl
 |v::l,c,off=>by
  show Option.rec (motive:=fun _=>Option (PT Value)) none (fun _=>Bool.rec (motive:=fun _=>Option (PT Value)) none (G9 l (PT.pq (dA off off) (some v) c) (Nat.succ off)) (bw v)) (PT.k8 (dA off off) c)=_
  rw[Az l,PT.gp,PT.ey,cF]
  conv=>rhs;rw[bN]
  unfold PT.get PT.set;cases PT.fm (bits off off) c with
  |none=>rfl
  |some _=>simp only;cases bw v<;>rfl
def BV(P:Program)(t:TypeId)(x v:Value):AP Unit:=
 match x with
 | .pointer (some a)=>Option.rec (motive:=fun _=>AP Unit) (.fail "store") (fun i=>Bool.rec (motive:=fun _=>AP Unit) (.fail "store") (.get a.block fun B=>aj.rec (motive:=fun _=>AP Unit)
   (fun c ro=>Bool.rec (motive:=fun _=>AP Unit) (Option.rec (motive:=fun _=>AP Unit) (.fail "store") (fun c' => .set a.block (.cells c' false) (.pure ())) (G9 v.cells.toList c a.off)) (.fail "store") ro)
   (fun _ _ => .fail "store") (fun _ _ _ _ => .fail "store") (fun _ _ _ _ _ _ => .fail "store") (.fail "store") B) (Nat.beq (G7 v.cells.toList) i.size)) (P.info? t)
 | _ => .fail "store"
theorem G_(P:Program)(t:TypeId)(x v:Value):BV P t x v=mW P t x v:=by
 unfold BV mW;cases x with
 |pointer a=>
  cases a with
  |none=>rfl
  |some a=>
   simp only;cases P.info? t with
   |none=>rfl
   |some i=>
    simp only[sO];cases Nat.beq v.cells.toList.length i.size with
    |false=>rfl
    |true=>
     simp only[cond_true]
     congr 1
     funext B
     cases B with
     |cells c ro=>
      cases ro with
      |true=>rfl
      |false=>simp only[Az];cases bN c a.off v.cells.toList<;>rfl
     | _=>rfl
 | _=>rfl
def sP(l:List Value):AP Value := .new (.cells (vY l .leaf 0) false) fun id => .pure (.pointer (some ⟨id,0,none⟩))
theorem rC(l:List Value):sP l=newRow l:=by unfold sP newRow;rw[rB]
def wh(P:Program)(t:TypeId):AP Value:=Option.rec (motive:=fun _=>AP Value) (.fail "alloc") (fun z=>sP z.cells.toList) (zeroOf P t)
theorem yf(P:Program)(t:TypeId):wh P t=qN P t:=by
 unfold wh qN;cases zeroOf P t<;>first|rfl|exact rC _
def He(ops:List Oper)(m:Tm)(j:Nat)(want:Bool):Bool:=
 Option.rec (motive:=fun _=>Bool) false (fun o=>Option.rec (motive:=fun _=>Bool) false (fun d=>match m.k8 d with | .bool b=>b==want | _=>false) o.dst) (vI ops j)
theorem KS(ops:List Oper)(m:Tm)(j:Nat)(want:Bool)(o:Oper)(h:o.guard=some (j,want)):He ops m j want=b_ ops m o:=by
 unfold He b_ ig;rw[h,nQ];simp only;cases ops[j]? with
 |none=>rfl
 |some q=>
  simp only;cases q.dst with
  |none=>rfl
  |some d=>
   simp only[Tm.gp];cases m.get d<;>rfl
def Tm.OI(m:Tm)(x:Operand):Value:=
 Operand.rec (motive:=fun _=>Tm→Value) (fun i m=>m.k8 i) (fun v _=>v) (fun g _ => .pointer (some ⟨g,0,none⟩)) (fun f _ => .func (.func f) ⟨[]⟩ ⟨[]⟩) x m
theorem Tm.D8(m:Tm):m.OI=m.eval:=by
 funext x;cases x<;>first|rfl|exact Tm.gp m _
def eU{α β:Type}(r:aO α)(k:α→HS→aO β):aO β:=aO.rec (motive:=fun _=>aO β) .fail k r
theorem cg{α β:Type}(r:aO α)(k:α→HS→aO β):eU r k=bP r k:=by cases r<;>rfl
def rdZ(lim id:Nat)(s:HS):HS:=Bool.rec (motive:=fun _=>HS) s (HS.rec (motive:=fun _=>HS) (fun h n rd wr=>⟨h,n,ins id rd,wr⟩) s) (Nat.blt id lim)
def pq(lim id:Nat)(b:Option aj)(s:HS):HS:=HS.rec (motive:=fun _=>HS) (fun h n rd wr=>⟨PT.pq (dA id id) b h,n,rd,Bool.rec (motive:=fun _=>List Nat) wr (ins id wr) (Nat.blt id lim)⟩) s
def Ua(b:aj)(s:HS):HS:=HS.rec (motive:=fun _=>HS) (fun h n rd wr=>⟨PT.pq (dA n n) (some b) h,Nat.succ n,rd,wr⟩) s
def AP.BW{α:Type}(lim:Nat)(p:AP α):HS→aO α:=
 AP.rec (motive:=fun _=>HS→aO α)
  (fun a s => .ok a s)
  (fun w _ => .fail w)
  (fun id _ ih s=>Option.rec (motive:=fun _=>aO α) (.fail "get") (fun b=>ih b (rdZ lim id s)) (PT.k8 (dA id id) s.heap))
  (fun id b _ ih s=>Option.rec (motive:=fun _=>aO α) (.fail "set") (fun _=>ih (pq lim id (some b) s)) (PT.k8 (dA id id) s.heap))
  (fun id _ ih s=>Option.rec (motive:=fun _=>aO α) (.fail "kill") (fun _=>ih (pq lim id none s)) (PT.k8 (dA id id) s.heap))
  (fun b _ ih s=>ih s.next (Ua b s)) p
theorem uk(lim id:Nat)(s:HS):rdZ lim id s=cond (Nat.blt id lim) { s with rd:=ins id s.rd } s:=by
 unfold rdZ;cases Nat.blt id lim<;>rfl
theorem ey(lim id:Nat)(b:Option aj)(s:HS):pq lim id b s=cond (Nat.blt id lim) { s with heap:=s.heap.set id b,wr:=ins id s.wr } { s with heap:=s.heap.set id b }:=by
 unfold pq PT.set;cases s;simp only[PT.ey,cF];cases Nat.blt id lim<;>rfl
theorem Ub(b:aj)(s:HS):Ua b s={ s with heap:=s.heap.set s.next (some b),next:=Nat.succ s.next }:=by
 unfold Ua PT.set;cases s;simp only[PT.ey,cF]
theorem AP.nR{α:Type}(lim:Nat):∀ (p:AP α) (s:HS),p.BW lim s=p.run lim s
 | .pure a,s=>rfl
 | .fail w,s=>rfl
 | .get id k,s=>by
  show Option.rec (motive:=fun _=>aO α) (.fail "get") (fun b=>(k b).BW lim (rdZ lim id s)) (PT.k8 (dA id id) s.heap)=_
  simp only[AP.run,PT.get,PT.gp,cF,uk];cases PT.fm (bits id id) s.heap with
  |none=>rfl
  |some b=>exact AP.nR lim (k b) _
 | .set id b k,s=>by
  show Option.rec (motive:=fun _=>aO α) (.fail "set") (fun _=>k.BW lim (pq lim id (some b) s)) (PT.k8 (dA id id) s.heap)=_
  simp only[AP.run,PT.get,PT.gp,cF,ey];cases PT.fm (bits id id) s.heap with
  |none=>rfl
  |some _=>exact AP.nR lim k _
 | .kill id k,s=>by
  show Option.rec (motive:=fun _=>aO α) (.fail "kill") (fun _=>k.BW lim (pq lim id none s)) (PT.k8 (dA id id) s.heap)=_
  simp only[AP.run,PT.get,PT.gp,cF,ey];cases PT.fm (bits id id) s.heap with
  |none=>rfl
  |some _=>exact AP.nR lim k _
 | .new b k,s=>by
  show (k s.next).BW lim (Ua b s)=_
  simp only[AP.run,Ub];exact AP.nR lim (k s.next) _
def AP.AB{α β:Type}(p:AP α)(f:α→AP β):AP β:=
 AP.rec (motive:=fun _=>AP β) f .fail (fun id _ ih => .get id ih) (fun id b _ ih => .set id b ih) (fun id _ ih => .kill id ih) (fun b _ ih => .new b ih) p
theorem AP.iw{α β:Type}(f:α→AP β):∀ (p:AP α),p.AB f=p.bind f
 | .pure a=>rfl
 | .fail w=>rfl
 | .get id k=>congrArg (AP.get id) (funext fun b=>AP.iw f (k b))
 | .set id b k=>congrArg (AP.set id b) (AP.iw f k)
 | .kill id k=>congrArg (AP.kill id) (AP.iw f k)
 | .new b k=>congrArg (AP.new b) (funext fun i=>AP.iw f (k i))
def vZ(s:AP Value):AP aG:=s.AB fun x => .pure (.value x)
def uZ(s:AP Unit):AP aG:=s.AB fun _ => .pure .skip
theorem WN(s:AP Value):vZ s=s.bind fun x => .pure (.value x):=AP.iw _ s
theorem WO(s:AP Unit):uZ s=s.bind fun _ => .pure .skip:=AP.iw _ s
def Zc(P:Program)(ρ:Operand→Value)(o:Op):AP aG:=
 Op.rec (motive:=fun _=>Program→(Operand→Value)→AP aG)
  (fun x P ρ => .pure (.value (ρ x)))
  (fun x P ρ => .pure (.value (ρ x)))
  (fun c a b P ρ=>match ρ c with | .bool t => .pure (.value (cond t (ρ a) (ρ b))) | _ => .fail "pick")
  (fun e P ρ=>vZ (wh P e))
  (fun _ x P ρ=>vZ (sP (ρ x).cells.toList))
  (fun t ps P ρ=>vZ (qO P t (ps.toList.map fun p=>(p.1,ρ p.2))))
  (fun t n ps P ρ=>vZ (gu P t n (ps.toList.map fun p=>(p.1,ρ p.2))))
  (fun t m k x P ρ=>uZ (fK P t (ρ m) (ρ k) (ρ x)))
  (fun t a P ρ=>vZ (yc P t (ρ a)))
  (fun t a x P ρ=>uZ (BV P t (ρ a) (ρ x)))
  (fun _ P ρ => .fail "operation")
  (fun _ P ρ => .fail "operation")
  (fun x P ρ=>vZ (kr (ρ x)))
  (fun op t x y _ P ρ=>vZ (eE P op t (isConst x) (isConst y) (ρ x) (ρ y)))
  (fun op _ x P ρ=>vZ (.opt "unOp" (oz op (ρ x)) .pure))
  (fun s d x P ρ=>vZ (kG P s d (ρ x)))
  (fun _ _ P ρ => .fail "operation")
  (fun t x P ρ=>vZ (dX P t (ρ x)))
  (fun fn first captured P ρ=>cond (j6 fn) (.pure (.value (.func fn ⟨first.toList.map ρ⟩ ⟨captured.toList.map ρ⟩))) (.fail "makeFunc"))
  (fun t r P ρ=>vZ (oC P t (r.map ρ)))
  (fun _ _ P ρ => .fail "operation")
  (fun t l c P ρ=>vZ (iF P t (ρ l) (ρ c)))
  (fun t x lo hi mx P ρ=>vZ (qQ P t (ρ x) (lo.map ρ) (hi.map ρ) (mx.map ρ)))
  (fun s x f P ρ=>vZ (gx P s (ρ x) f))
  (fun t x f P ρ=>vZ (qP P t (ρ x) f))
  (fun t x i P ρ=>vZ (eY P t (ρ x) (ρ i)))
  (fun t x i P ρ=>vZ (oA P t (ρ x) (ρ i)))
  (fun t x i ok P ρ=>vZ (mX P t (ρ x) (ρ i) ok))
  (fun t m k x P ρ=>uZ (fK P t (ρ m) (ρ k) (ρ x)))
  (fun _ _ _ P ρ => .fail "operation")
  (fun _ _ _ _ P ρ => .fail "operation")
  (fun t x P ρ=>vZ (wJ P t (ρ x)))
  (fun x b P ρ=>vZ (CX (ρ x) b))
  (fun x P ρ=>vZ (wK (ρ x)))
  (fun x _ t ok P ρ=>vZ (jK P (ρ x) t ok))
  (fun x i P ρ=>vZ (jL (ρ x) i))
  (fun c P ρ=>rU P ρ c)
  (fun _ P ρ => .fail "operation")
  (fun _ P ρ => .fail "operation")
  (fun _ P ρ => .fail "operation")
  (fun _ _ P ρ => .fail "operation")
  (fun _ _ _ P ρ => .fail "operation")
  (fun _ _ P ρ => .fail "operation")
  o P ρ
theorem Uc(P:Program)(ρ:Operand→Value)(o:Oper):Zc P ρ o.op=k7 P ρ o:=by
 unfold k7;cases h:o.op<;>first|rfl|exact WN _ |exact WO _ | (simp only[Zc,WN,WO,Ay,G_,yf,rC];done)
section
variable (P:Program) (O:Over) (ev:iL)
def pz(lim:Nat)(m:Tm)(rs:List ResultVar):HS→aO (List Value):=
 List.rec (motive:=fun _=>HS→aO (List Value)) (fun s => .ok [] s)
  (fun r _ ih s=>ResultVar.rec (motive:=fun _=>aO (List Value)) (fun t=>eU (ih s) fun l s => .ok (m.k8 t::l) s) (fun a t=>eU ((yc P t (m.k8 a)).BW lim s) fun v s=>eU (ih s) fun l s => .ok (v::l) s) r) rs
theorem pE(lim:Nat)(m:Tm):∀ (rs:List ResultVar) (s:HS),pz P lim m rs s=cD P lim m rs s
 | [],s=>rfl
 | .tmp t::rs,s=>by
  show eU (pz P lim m rs s) (fun l s => .ok (m.k8 t::l) s)=bP (cD P lim m rs s) fun l s => .ok (m.get t::l) s
  rw[cg,pE lim m rs,Tm.gp]
 | .cell a t::rs,s=>by
  show eU ((yc P t (m.k8 a)).BW lim s) (fun v s=>eU (pz P lim m rs s) fun l s => .ok (v::l) s)=bP ((fG P t (m.get a)).run lim s) fun v s=>bP (cD P lim m rs s) fun l s => .ok (v::l) s
  rw[cg,AP.nR,Ay,Tm.gp]
  congr 1
  funext v s
  rw[cg,pE lim m rs]
def Hf(lim:Nat)(rs:List ResultVar)(x:bp×Tm)(s:HS):aO Value:=
 Prod.rec (motive:=fun _=>aO Value) (fun e m=>bp.rec (motive:=fun _=>aO Value) (eU (fB lim m.fF s) fun _ s=>eU (pz P lim m rs s) fun l s => .ok (oneOf l) s) (fun _ => .fail "exit out of a body") (eU (fB lim m.fF s) fun _ s=>eU (pz P lim m rs s) fun l s => .ok (oneOf l) s) e) x
theorem KT(lim:Nat)(rs:List ResultVar)(x:bp×Tm)(s:HS):Hf P lim rs x s=iH P lim rs x s:=by
 obtain⟨e,m⟩:=x;cases e<;>simp only[Hf,iH,cg,pE]
def OJ(lim:Nat)(f:FuncId)(args:List Value)(s:HS):aO Value:=
 Option.rec (motive:=fun _=>aO Value) (.fail "no function") (fun fn=>Option.rec (motive:=fun _=>aO Value) (.fail "no body") (fun c=>eU (ev none lim c ⟨args.length+(fn.ntmps-args.length),vY args .leaf 0,[]⟩ s) fun x s=>Hf P lim fn.results.toList x s) fn.body) (P.funcs[f]?)
theorem OL(lim:Nat)(f:FuncId)(args:List Value)(s:HS):OJ P ev lim f args s=gV P ev lim f args s:=by
 unfold OJ gV;cases P.funcs[f]? with
 |none=>rfl
 |some fn=>
  simp only;cases fn.body with
  |none=>rfl
  |some c=>simp only[cg,KT,rB]
def D9(lim:Nat)(f:FuncId)(args:List Value)(s:HS):aO Value:=
 Option.rec (motive:=fun _=>aO Value) (OJ P ev lim f args s) (fun m=>m.BW lim s) (O f args)
theorem D_(lim:Nat)(f:FuncId)(args:List Value)(s:HS):D9 P O ev lim f args s=fT P O ev lim f args s:=by
 unfold D9 fT;cases O f args with
 |none=>exact OL P ev lim f args s
 |some m=>exact AP.nR lim m s
def OM(lim:Nat)(x:aG)(s:HS):aO Value:=
 aG.rec (motive:=fun _=>aO Value) (fun v => .ok v s) (.ok dY s) (fun f args=>D9 P O ev lim f args s) (fun l m as_ bd=>ga ev lim l m as_ bd s) x
theorem Ea(lim:Nat)(x:aG)(s:HS):OM P O ev lim x s=fU P O ev lim x s:=by
 cases x<;>first|rfl|exact D_ P O ev lim _ _ s
def Ud(lim:Nat)(m:Tm)(op:Op)(s:HS):aO Value:=
 Bool.rec (motive:=fun _=>aO Value) (.fail "an address among the constants") (eU ((Zc P m.OI op).BW lim s) (OM P O ev lim)) (op.operands.toList.all bz)
theorem Ue(lim:Nat)(m:Tm)(o:Oper)(s:HS):Ud P O ev lim m o.op s=jr P O ev lim m.eval o s:=by
 unfold Ud jr;cases o.op.operands.toList.all bz with
 |false=>rfl
 |true=>
  simp only[cond_true,cg,AP.nR,Tm.D8,Uc]
  congr 1
  funext x s
  exact Ea P O ev lim x s
def Zd(d:Option Nat)(v:Value)(m:Tm)(s:HS):aO Tm:=
 Option.rec (motive:=fun _=>aO Tm) (.ok m s) (fun i=>Tm.rec (motive:=fun _=>aO Tm) (fun n t fF=>Bool.rec (motive:=fun _=>aO Tm) (.fail "slot") (.ok ⟨n,PT.pq (dA i i) (some v) t,fF⟩ s) (Nat.blt i n)) m) d
theorem Uf(d:Option Nat)(v:Value)(m:Tm)(s:HS):Zd d v m s=jt m d v s:=by
 unfold Zd jt Tm.put PT.set;cases d with
 |none=>rfl
 |some i=>
  cases m with
  |mk n t fF=>
   simp only[PT.ey,cF];cases Nat.blt i n<;>rfl
def opZ(lim:Nat)(ops:List Oper)(o:Oper)(m:Tm)(s:HS):aO Tm:=
 Oper.rec (motive:=fun _=>aO Tm) (fun dst op _ _ _ guard=>
  eU (Option.rec (motive:=fun _=>aO Value) (Ud P O ev lim m op s) (fun g=>Prod.rec (motive:=fun _=>aO Value) (fun j want=>Bool.rec (motive:=fun _=>aO Value) (.ok dY s) (Ud P O ev lim m op s) (He ops m j want)) g) guard) fun v s=>Zd dst v m s) o
theorem OO(lim:Nat)(ops:List Oper)(o:Oper)(m:Tm)(s:HS):opZ P O ev lim ops o m s=lW P O ev lim ops o m s:=by
 unfold opZ lW;obtain⟨dst,op,ty,pos,after,guard⟩:=o;simp only[cg,Uf]
 congr 1
 have e:=Ue P O ev lim m ⟨dst,op,ty,pos,after,guard⟩ s;simp only at e;cases guard with
 |none=>exact e
 |some g=>
  obtain⟨j,want⟩:=g;simp only[KS ops m j want ⟨dst,op,ty,pos,after,some (j,want)⟩ rfl,e];cases b_ ops m ⟨dst,op,ty,pos,after,some (j,want)⟩<;>rfl
def Ze(lim:Nat)(ops:List Oper)(l:List Oper):Tm→HS→aO Tm:=
 List.rec (motive:=fun _=>Tm→HS→aO Tm) (fun m s => .ok m s) (fun o _ ih m s=>eU (opZ P O ev lim ops o m s) ih) l
theorem IG(lim:Nat)(ops:List Oper):∀ (l:List Oper) (m:Tm) (s:HS),Ze P O ev lim ops l m s=jl P O ev lim ops l m s
 | [],m,s=>rfl
 |o::l,m,s=>by
  show eU (opZ P O ev lim ops o m s) (Ze P O ev lim ops l)=bP (lW P O ev lim ops o m s) fun m s=>jl P O ev lim ops l m s
  rw[cg,OO]
  congr 1
  funext m s
  exact IG lim ops l m s
def OP(ops:List Oper)(l:List Oper):Tm→PT aj→Nat→aO (Tm×List bO):=
 List.rec (motive:=fun _=>Tm→PT aj→Nat→aO (Tm×List bO)) (fun m h n => .ok (m,[]) ⟨h,n,[],[]⟩)
  (fun o _ ih m h n=>eU (opZ P O ev n ops o m ⟨h,n,[],[]⟩) fun m s=>HS.rec (motive:=fun _=>aO (Tm×List bO)) (fun h' n' rd wr=>eU (ih m h' n') fun x s'=>Prod.rec (motive:=fun _=>aO (Tm×List bO)) (fun y fs => .ok (y,⟨n,n',rd,wr⟩::fs) s') x) s) l
theorem Eb(ops:List Oper):∀ (l:List Oper) (m:Tm) (h:PT aj) (n:Nat),OP P O ev ops l m h n=g8 P O ev ops l m h n
 | [],m,h,n=>rfl
 |o::l,m,h,n=>by
  show eU (opZ P O ev n ops o m ⟨h,n,[],[]⟩) (fun m s=>HS.rec (motive:=fun _=>aO (Tm×List bO)) (fun h' n' rd wr=>eU (OP P O ev ops l m h' n') fun x s'=>Prod.rec (motive:=fun _=>aO (Tm×List bO)) (fun y fs => .ok (y,⟨n,n',rd,wr⟩::fs) s') x) s)=bP (lW P O ev n ops o m ⟨h,n,[],[]⟩) fun m s=>bP (g8 P O ev ops l m s.heap s.next) fun x s' => .ok (x.1,⟨n,s.next,s.rd,s.wr⟩::x.2) s'
  rw[cg,OO]
  congr 1
  funext m s
  cases s;simp only[cg,Eb ops l]
def OQ(lim:Nat)(ops:List Oper)(m:Tm)(s:HS):aO Tm:=
 Option.rec (motive:=fun _=>aO Tm) (.fail "operations whose order is open share a slot")
  (fun L=>HS.rec (motive:=fun _=>aO Tm) (fun h n rd wr=>eU (OP P O ev ops ops m h n) fun x s'=>Prod.rec (motive:=fun _=>aO Tm) (fun y fs=>
   Bool.rec (motive:=fun _=>aO Tm) (.fail "operations whose order is open touch one block")
    (HS.rec (motive:=fun _=>aO Tm) (fun h' n' _ _ => .ok y (Bool.rec (motive:=fun _=>HS) (G6 lim h' n' fs rd wr) ⟨h',n',rd,wr⟩ (Nat.beq lim 0))) s')
    (BR fs L)) x) s)
  (T_ ops)
theorem OS(lim:Nat)(ops:List Oper)(m:Tm)(s:HS):OQ P O ev lim ops m s=fJ P O ev lim ops m s:=by
 unfold OQ fJ;rw[IF];cases g9 ops (aR (aU [] ops) ops.length) with
 |false=>rfl
 |true=>
  obtain⟨h,n,rd,wr⟩:=s;simp only[cond_true,cg,Eb]
  congr 1
  funext x s'
  obtain⟨y,fs⟩:=x;simp only[uh];cases dc fs (aR (aU [] ops) ops.length) with
  |false=>rfl
  |true=>
   cases s';simp only[cond_true,uj];cases Nat.beq lim 0<;>rfl
def u9:iL:=fun ro lim c m s=>
 Code.rec (motive:=fun _=>Program→Over→iL→Option Nat→Nat→Tm→HS→aO (bp×Tm))
  (fun _ _ _ _ _ m s => .ok (.normal,m) s)
  (fun _ ops draw P O ev ro lim m s=>eU (Bool.rec (motive:=fun _=>aO Tm) (Ze P O ev lim ops.toList ops.toList m s) (OQ P O ev lim ops.toList m s) draw) fun m s => .ok (.normal,m) s)
  (fun a b _ _ P O ev ro lim m s=>eU (ev ro lim a m s) fun x s=>Prod.rec (motive:=fun _=>aO (bp×Tm)) (fun e m=>bp.rec (motive:=fun _=>aO (bp×Tm)) (ev ro lim b m s) (fun i => .ok (.exit i,m) s) (.ok (.ret,m) s) e) x)
  (fun c a b _ _ P O ev ro lim m s=>cond (bz c) (match m.OI c with
   | .bool t=>Bool.rec (motive:=fun _=>aO (bp×Tm)) (ev ro lim b m s) (ev ro lim a m s) t
   | _ => .fail "cond") (.fail "cond"))
  (fun id c _ P O ev ro lim m s=>eU (ev ro lim c m s) fun x s=>Prod.rec (motive:=fun _=>aO (bp×Tm)) (fun e m=>bp.rec (motive:=fun _=>aO (bp×Tm)) (.ok (.normal,m) s) (fun i => .ok (cond (Nat.beq i id) .normal (.exit i),m) s) (.ok (.ret,m) s) e) x)
  (fun c _ P O ev ro lim m s=>eU (ev ro lim c m s) fun x s=>Prod.rec (motive:=fun _=>aO (bp×Tm)) (fun e m=>bp.rec (motive:=fun _=>aO (bp×Tm)) (ev ro lim (.loop c) m s) (fun i => .ok (.exit i,m) s) (.ok (.ret,m) s) e) x)
  (fun g ps assign body _ _ P O ev ro lim m s=>fL P O ev ro lim g ps.toList assign body m s)
  (fun id _ _ _ _ _ m s => .ok (.exit id,m) s)
  (fun c _ P O ev ro lim m s=>ev ro lim c m s)
  (fun _ _ _ _ _ _ m s => .ok (.normal,m) s)
  (fun _ _ _ _ _ _ m s => .fail "code")
  (fun _ _ _ _ _ m s => .ok (.ret,m) s)
  (fun _ _ _ _ _ _ m s => .fail "code") c P O ev ro lim m s
theorem OT:u9 P O ev=br P O ev:=by
 funext ro lim c m s
 cases c with
 |region i ops draw=>
  simp only[u9,br,cg,IG,OS]
  congr 1
  cases draw<;>rfl
 |seq a b=>
  simp only[u9,br,cg]
  congr 1;funext x s;obtain⟨e,m⟩:=x;cases e<;>rfl
 |block i c=>
  simp only[u9,br,cg]
  congr 1;funext x s;obtain⟨e,m⟩:=x;cases e<;>rfl
 |loop c=>
  simp only[u9,br,cg]
  congr 1;funext x s;obtain⟨e,m⟩:=x;cases e<;>rfl
 |cond c a b=>
  simp only[u9,br,Tm.D8];cases bz c with
  |false=>rfl
  |true=>
   simp only[cond_true];cases m.eval c with
   |bool t=>cases t<;>rfl
   | _=>rfl
 | _=>rfl
def evZ(n:Nat):iL:=Nat.rec (motive:=fun _=>iL) (fun _ _ _ _ _ => .fail "fuel") (fun _ ev=>u9 P O ev) n
theorem Hg:∀ n,evZ P O n=mQ P O n
 |0=>rfl
 |n+1=>by
  show u9 P O (evZ P O n)=br P O (mQ P O n)
  rw[Hg n,OT]
def OU(fuel:Nat)(f:FuncId):Bool:=isTrue (D9 P O (evZ P O fuel) 0 f [] rV)
theorem II(fuel:Nat)(f:FuncId):OU P O fuel f=vR P O fuel f:=by
 unfold OU vR;rw[D_,Hg]
end
end Go.Am
