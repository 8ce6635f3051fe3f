/-
  A part of the proof: contracts of inner functions.
-/
import Derived.Test.YtofmbmclopgldaaGreatAmX7
set_option linter.unusedVariables false
noncomputable section
namespace Go.Am
open Go.RowKit
def cF (f n:Nat):List Bool:=
 Nat.rec (motive:=fun _=>Nat→List Bool) (fun _=>[]) (fun _ ih n=>Bool.rec (motive:=fun _=>List Bool) (Nat.beq (Nat.mod n 2) 1::ih (Nat.div n 2)) [] (Nat.beq n 0)) f n
theorem bW:∀ (f n:Nat),cF f n=bits f n
 |0,n=>rfl
 |f+1,n=>by
  show Bool.rec (motive:=fun _=>List Bool) (Nat.beq (Nat.mod n 2) 1::cF f (Nat.div n 2)) [] (Nat.beq n 0)=bits (f+1) n
  rw[bW f]
  conv=>rhs;rw[bits]
  cases Nat.beq n 0<;>rfl
def qW {α:Type} (l:List α):Nat→Option α:=
 List.rec (motive:=fun _=>Nat→Option α) (fun _=>none) (fun a _ ih n=>Nat.rec (motive:=fun _=>Option α) (some a) (fun m _=>ih m) n) l
theorem kH {α:Type}:∀ (l:List α) (n:Nat),qW l n=l[n]?
 | [],n=>by simp;rfl
 |a::l,0=>by simp;rfl
 |a::l,n+1=>by
  rw[List.getElem?_cons_succ,←kH l n];rfl
def A7 (x:Nat) (b:List Nat):Bool:=List.rec (motive:=fun _=>Bool) false (fun y _ ih=>Bool.rec (motive:=fun _=>Bool) ih true (Nat.beq x y)) b
theorem wu (x:Nat):∀ b:List Nat,A7 x b=b.any (Nat.beq x)
 | []=>rfl
 |y::b=>by
  show Bool.rec (motive:=fun _=>Bool) (A7 x b) true (Nat.beq x y)=_
  rw[wu x b,List.any_cons]
  cases Nat.beq x y<;>rfl
def sZ (b a:List Nat):Bool:=List.rec (motive:=fun _=>Bool) false (fun x _ ih=>Bool.rec (motive:=fun _=>Bool) ih true (A7 x b)) a
theorem u5 (b:List Nat):∀ a:List Nat,sZ b a=meets a b
 | []=>rfl
 |x::a=>by
  show Bool.rec (motive:=fun _=>Bool) (sZ b a) true (A7 x b)=_
  rw[u5 b a,wu]
  unfold meets
  rw[List.any_cons]
  cases b.any (Nat.beq x)<;>rfl
def oN (lo hi:Nat) (a:List Nat):Bool:=List.rec (motive:=fun _=>Bool) false (fun x _ ih=>Bool.rec (motive:=fun _=>Bool) ih (Bool.rec (motive:=fun _=>Bool) ih true (Nat.blt x hi)) (Nat.ble lo x)) a
theorem td (lo hi:Nat):∀ a:List Nat,oN lo hi a=bw a lo hi
 | []=>rfl
 |x::a=>by
  show Bool.rec (motive:=fun _=>Bool) (oN lo hi a) (Bool.rec (motive:=fun _=>Bool) (oN lo hi a) true (Nat.blt x hi)) (Nat.ble lo x)=_
  rw[td lo hi a]
  unfold bw
  rw[List.any_cons]
  cases Nat.ble lo x<;>cases Nat.blt x hi<;>rfl
def wz (f g:bD):Bool:=
 bD.rec (motive:=fun _=>Bool) (fun lo hi rd wr=>bD.rec (motive:=fun _=>Bool) (fun _ _ rd' wr'=>
  Bool.rec (motive:=fun _=>Bool) (Bool.rec (motive:=fun _=>Bool) (Bool.rec (motive:=fun _=>Bool) (Bool.rec (motive:=fun _=>Bool) (oN lo hi wr') true (oN lo hi rd')) true (sZ wr' rd)) true (sZ rd' wr)) true (sZ wr' wr)) g) f
theorem DI (f g:bD):wz f g=gZ f g:=by
 cases f;cases g
 simp only[wz,gZ,u5,td]
 rename_i lo hi rd wr _ _ rd' wr'
 cases meets wr wr'<;>cases meets wr rd'<;>cases meets rd wr'<;>cases bw rd' lo hi<;>cases bw wr' lo hi<;>rfl
def wA (fs:List bD) (l:List (Nat×Nat)):Bool:=
 List.rec (motive:=fun _=>Bool) true (fun p _ ih=>Prod.rec (motive:=fun _=>Bool) (fun i j=>Option.rec (motive:=fun _=>Bool) false (fun f=>Option.rec (motive:=fun _=>Bool) false (fun g=>Bool.rec (motive:=fun _=>Bool) ih false (wz f g)) (qW fs j)) (qW fs i)) p) l
theorem pQ (fs:List bD):∀ l:List (Nat×Nat),wA fs l=cG fs l
 | []=>rfl
 |p::l=>by
  obtain⟨i,j⟩:=p
  show Option.rec (motive:=fun _=>Bool) false (fun f=>Option.rec (motive:=fun _=>Bool) false (fun g=>Bool.rec (motive:=fun _=>Bool) (wA fs l) false (wz f g)) (qW fs j)) (qW fs i)=_
  rw[pQ fs l]
  unfold cG
  rw[List.all_cons]
  simp only[kH,DI]
  cases fs[i]? with
  |none=>rfl
  |some f=>
   cases fs[j]? with
   |none=>rfl
   |some g=>
    simp only
    cases gZ f g<;>rfl
def A8 (lim:Nat) (h:PT ak) (n:Nat) (fs:List bD):List Nat→List Nat→HS:=
 List.rec (motive:=fun _=>List Nat→List Nat→HS) (fun rd wr=>⟨h,n,rd,wr⟩) (fun f _ ih rd wr=>ih (below lim f.rd rd) (below lim f.wr wr)) fs
theorem pR (lim:Nat) (h:PT ak) (n:Nat):∀ (fs:List bD) (rd wr:List Nat),A8 lim h n fs rd wr=aQ lim fs ⟨h,n,rd,wr⟩
 | [],rd,wr=>rfl
 |f::fs,rd,wr=>pR lim h n fs _ _
def A_ {α:Type} (l:List α):Nat:=List.rec (motive:=fun _=>Nat) 0 (fun _ _ ih=>Nat.succ ih) l
theorem oO {α:Type}:∀ l:List α,A_ l=l.length
 | []=>rfl
 | _::l=>congrArg Nat.succ (oO l)
def DJ {α:Type} (a b:List α):List α:=List.rec (motive:=fun _=>List α) b (fun x _ ih=>x::ih) a
theorem rz {α:Type} (b:List α):∀ a:List α,DJ a b=a++b
 | []=>rfl
 |x::a=>congrArg (x::·) (rz b a)
def u6 (l:List Nat) (n:Nat):Nat:=Option.rec (motive:=fun _=>Nat) 0 (fun x=>x) (qW l n)
theorem yG (l:List Nat) (n:Nat):u6 l n=l.getD n 0:=by
 unfold u6 List.getD
 rw[kH];cases l[n]? <;> rfl
def yH (acc:List Nat) (l:List Edge):Nat:=
 List.rec (motive:=fun _=>Nat) 0 (fun e _ ih=>Bool.rec (motive:=fun _=>Nat) ih (Nat.lor (Nat.lor (Nat.pow 2 e.on) (u6 acc e.on)) ih) (Region.binds .any e)) l
theorem yI (acc:List Nat):∀ l:List Edge,yH acc l=gJ acc l
 | []=>rfl
 |e::l=>by
  show Bool.rec (motive:=fun _=>Nat) (yH acc l) (Nat.lor (Nat.lor (Nat.pow 2 e.on) (u6 acc e.on)) (yH acc l)) (Region.binds .any e)=_
  rw[yI acc l,yG]
  conv=>rhs;rw[gJ]
  cases Region.binds .any e<;>rfl
def OO (l:List Oper):List Nat→List Nat:=List.rec (motive:=fun _=>List Nat→List Nat) (fun acc=>acc) (fun o _ ih acc=>ih (DJ acc [yH acc o.after.toList])) l
theorem B_:∀ (l:List Oper) (acc:List Nat),OO l acc=aO acc l
 | [],acc=>rfl
 |o::l,acc=>by
  show OO l (DJ acc [yH acc o.after.toList])=_
  rw[B_ l,rz,yI];rfl
def Kk (m i:Nat):Bool:=Bool.rec (motive:=fun _=>Bool) true false (Nat.beq (Nat.land 1 (Nat.shiftRight m i)) 0)
theorem Kl (m i:Nat):Kk m i=m.testBit i:=by
 unfold Kk Nat.testBit
 show _ = !(Nat.land 1 (Nat.shiftRight m i)==0)
 cases h:Nat.beq (Nat.land 1 (Nat.shiftRight m i)) 0 with
 |true=>have:=Nat.eq_of_beq_eq_true h;rw[this];rfl
 |false=>
  have:(Nat.land 1 (Nat.shiftRight m i)==0)=false:=by
   rw[Bool.eq_false_iff];intro e
   have e:=eq_of_beq e
   rw[e] at h;simp at h
  rw[this];rfl
def Gu (m j k:Nat):Nat→List (Nat×Nat):=
 Nat.rec (motive:=fun _=>Nat→List (Nat×Nat)) (fun _=>[]) (fun _ ih i=>Bool.rec (motive:=fun _=>List (Nat×Nat)) ((i,j)::ih (Nat.succ i)) (ih (Nat.succ i)) (Kk m i)) k
theorem Ca (m j:Nat):∀ (k i:Nat),Gu m j k i=((List.range' i k).filter fun i => !m.testBit i).map fun i=>(i,j)
 |0,i=>rfl
 |k+1,i=>by
  show Bool.rec (motive:=fun _=>List (Nat×Nat)) ((i,j)::Gu m j k (Nat.succ i)) (Gu m j k (Nat.succ i)) (Kk m i)=_
  rw[Ca m j k,Kl,List.range'_succ,List.filter_cons]
  cases m.testBit i<;>rfl
def wB (uA:List Nat) (k:Nat):Nat→List (Nat×Nat):=
 Nat.rec (motive:=fun _=>Nat→List (Nat×Nat)) (fun _=>[]) (fun _ ih j=>DJ (Gu (u6 uA j) j j 0) (ih (Nat.succ j))) k
theorem qF (uA:List Nat):∀ (k j:Nat),aL uA j++wB uA k j=aL uA (j+k)
 |0,j=>by show aL uA j++[]=_;rw[List.append_nil];rfl
 |k+1,j=>by
  show aL uA j++DJ (Gu (u6 uA j) j j 0) (wB uA k (Nat.succ j))=_
  rw[rz,Ca,←List.append_assoc,yG]
  have h:=qF uA k (j+1)
  rw[show j+1+k=j+(k+1) by omega] at h
  rw[←h]
  congr 1
  conv=>rhs;rw[aL]
  rw[List.range_eq_range']
theorem DK (uA:List Nat) (n:Nat):wB uA n 0=aL uA n:=by
 have:=qF uA n 0
 rw[Nat.zero_add] at this
 exact this
def iw (ops:List Oper) (o:Oper):Option Nat×List Nat:=(o.dst,o.looksAt ⟨ops⟩)
def wC (a b:Option Nat×List Nat):Bool:=
 Prod.rec (motive:=fun _=>Bool) (fun d l=>Prod.rec (motive:=fun _=>Bool) (fun d' l'=>
  Bool.rec (motive:=fun _=>Bool) false (Option.rec (motive:=fun _=>Bool) true (fun x=>Bool.rec (motive:=fun _=>Bool) true false (A7 x l)) d')
   (Option.rec (motive:=fun _=>Bool) true (fun x=>Bool.rec (motive:=fun _=>Bool) (Option.rec (motive:=fun _=>Bool) true (fun y=>Bool.rec (motive:=fun _=>Bool) true false (Nat.beq y x)) d') false (A7 x l')) d)) b) a
theorem Uc (x y:Nat):(x==y)=Nat.beq x y:=by
 cases h:Nat.beq x y with
 |true=>have:=Nat.eq_of_beq_eq_true h;subst this;simp
 |false=>
  rw[Bool.eq_false_iff];intro e
  have e:=eq_of_beq e
  subst e;simp at h
theorem wD (x:Nat) (l:List Nat):A7 x l=l.contains x:=by
 rw[wu]
 induction l with
 |nil=>rfl
 |cons y l ih=>
  rw[List.any_cons,List.contains_cons,ih,Uc]
theorem DL (ops:List Oper) (x y:Oper):wC (iw ops x) (iw ops y)=Oper.apart ⟨ops⟩ x y:=by
 unfold wC iw Oper.apart
 simp only[wD]
 cases x.dst with
 |none=>
  cases y.dst with
  |none=>rfl
  |some b=>simp only;cases (x.looksAt ⟨ops⟩).contains b<;>rfl
 |some a=>
  cases y.dst with
  |none=>simp only;cases (y.looksAt ⟨ops⟩).contains a<;>rfl
  |some b=>
   simp only
   have e:(some b != some a) = !Nat.beq b a:=by rw[←Uc];rfl
   rw[e]
   cases (y.looksAt ⟨ops⟩).contains a<;>cases Nat.beq b a<;>cases (x.looksAt ⟨ops⟩).contains b<;>rfl
def Gv {α β:Type} (f:α→β) (l:List α):List β:=List.rec (motive:=fun _=>List β) [] (fun x _ ih=>f x::ih) l
theorem Cb {α β:Type} (f:α→β):∀ l:List α,Gv f l=l.map f
 | []=>rfl
 |x::l=>congrArg (f x::·) (Cb f l)
def tj (fs:List (Option Nat×List Nat)) (d:Option Nat×List Nat) (l:List (Nat×Nat)):Bool:=
 List.rec (motive:=fun _=>Bool) true (fun p _ ih=>Prod.rec (motive:=fun _=>Bool) (fun i j=>Bool.rec (motive:=fun _=>Bool) false ih (wC (Option.rec (motive:=fun _=>Option Nat×List Nat) d (fun x=>x) (qW fs i)) (Option.rec (motive:=fun _=>Option Nat×List Nat) d (fun x=>x) (qW fs j)))) p) l
theorem qG (ops:List Oper):∀ l:List (Nat×Nat),tj (Gv (iw ops) ops) (iw ops default) l=rj ops l
 | []=>rfl
 |p::l=>by
  obtain⟨i,j⟩:=p
  show Bool.rec (motive:=fun _=>Bool) false (tj (Gv (iw ops) ops) (iw ops default) l) (wC _ _)=_
  rw[qG ops l]
  have e:∀ i,Option.rec (motive:=fun _=>Option Nat×List Nat) (iw ops default) (fun x=>x) (qW (Gv (iw ops) ops) i)=iw ops (ops.getD i default):=by
   intro i
   rw[Cb,kH,List.getElem?_map]
   unfold List.getD
   cases ops[i]? <;> rfl
  rw[e,e,DL]
  unfold rj
  rw[List.all_cons]
  cases Oper.apart ⟨ops⟩ (ops.getD i default) (ops.getD j default)<;>rfl
def Ba (l:List Oper):Nat→Bool:=
 List.rec (motive:=fun _=>Nat→Bool) (fun _=>true) (fun o _ ih i=>Bool.rec (motive:=fun _=>Bool) false (ih (Nat.succ i))
  (List.rec (motive:=fun _=>Bool) true (fun e _ q=>Bool.rec (motive:=fun _=>Bool) q (Bool.rec (motive:=fun _=>Bool) false q (Nat.blt e.on i)) (Region.binds .any e)) o.after.toList)) l
theorem u7:∀ (l:List Oper) (i:Nat),Ba l i=j0 i l
 | [],i=>rfl
 |o::l,i=>by
  have e:∀ es:List Edge,List.rec (motive:=fun _=>Bool) true (fun e _ q=>Bool.rec (motive:=fun _=>Bool) q (Bool.rec (motive:=fun _=>Bool) false q (Nat.blt e.on i)) (Region.binds .any e)) es=es.all (fun e => !Region.binds .any e||Nat.blt e.on i):=by
   intro es
   induction es with
   |nil=>rfl
   |cons a es ih=>
    show Bool.rec (motive:=fun _=>Bool) _ (Bool.rec (motive:=fun _=>Bool) false _ (Nat.blt a.on i)) (Region.binds .any a)=_
    rw[ih,List.all_cons]
    cases Region.binds .any a<;>cases Nat.blt a.on i<;>rfl
  show Bool.rec (motive:=fun _=>Bool) false (Ba l (Nat.succ i)) (List.rec (motive:=fun _=>Bool) true (fun e _ q=>Bool.rec (motive:=fun _=>Bool) q (Bool.rec (motive:=fun _=>Bool) false q (Nat.blt e.on i)) (Region.binds .any e)) o.after.toList)=_
  rw[u7 l,e]
  conv=>rhs;rw[j0]
  cases o.after.toList.all (fun e => !Region.binds .any e||Nat.blt e.on i)<;>rfl
def Km (ops:List Oper):Option (List (Nat×Nat)):=
 let l:=wB (OO ops []) (A_ ops) 0
 Bool.rec (motive:=fun _=>Option (List (Nat×Nat))) none (Bool.rec (motive:=fun _=>Option (List (Nat×Nat))) none (some l) (Ba ops 0)) (tj (Gv (iw ops) ops) (iw ops default) l)
theorem Cc (ops:List Oper):Km ops=cond (fO ops (aL (aO [] ops) ops.length)) (some (aL (aO [] ops) ops.length)) none:=by
 unfold Km fO
 simp only[qG,u7,DK,B_,oO]
 cases rj ops (aL (aO [] ops) ops.length)<;>cases j0 0 ops<;>rfl
def PT.jm {α:Type} (k:List Bool) (t:PT α):Option α:=
 PT.rec (motive:=fun _=>List Bool→Option α) (fun _=>none) (fun _ v _ il ir k=>List.rec (motive:=fun _=>Option α) v (fun b k' _=>Bool.rec (motive:=fun _=>Option α) (il k') (ir k') b) k) t k
theorem PT.eo {α:Type}:∀ (t:PT α) (k:List Bool),PT.jm k t=PT.ef k t
 | .leaf,[]=>rfl
 | .leaf,_::_=>rfl
 | .node _ _ _,[]=>rfl
 | .node l _ r,true::k=>PT.eo r k
 | .node l _ r,false::k=>PT.eo l k
def PT.lY {α:Type} (k:List Bool) (v:Option α):PT α→PT α:=
 List.rec (motive:=fun _=>PT α→PT α) (fun t=>PT.rec (motive:=fun _=>PT α) (.node .leaf v .leaf) (fun l _ r _ _ => .node l v r) t)
  (fun b _ ih t=>PT.rec (motive:=fun _=>PT α) (Bool.rec (motive:=fun _=>PT α) (.node (ih .leaf) none .leaf) (.node .leaf none (ih .leaf)) b) (fun l u r _ _=>Bool.rec (motive:=fun _=>PT α) (.node (ih l) u r) (.node l u (ih r)) b) t) k
theorem PT.cX {α:Type} (v:Option α):∀ (k:List Bool) (t:PT α),PT.lY k v t=PT.cP k v t
 | [],.leaf=>rfl
 | [],.node _ _ _=>rfl
 |true::k,.leaf=>congrArg (PT.node .leaf none) (PT.cX v k .leaf)
 |false::k,.leaf=>congrArg (fun x=>PT.node x none .leaf) (PT.cX v k .leaf)
 |true::k,.node l u r=>congrArg (PT.node l u) (PT.cX v k r)
 |false::k,.node l u r=>congrArg (fun x=>PT.node x u r) (PT.cX v k l)
def Tm.jm (m:Tm) (i:Nat):Value:=Option.rec (motive:=fun _=>Value) cZ (fun v=>v) (PT.jm (cF i i) m.t)
theorem Tm.eo (m:Tm) (i:Nat):m.jm i=m.get i:=by
 unfold Tm.jm Tm.get
 rw[PT.eo,bW]
 show _=match PT.ef (bits i i) m.t with |some v=>v |none=>cZ
 cases PT.ef (bits i i) m.t<;>rfl
def rA {α:Type} (l:List α):PT α→Nat→PT α:=List.rec (motive:=fun _=>PT α→Nat→PT α) (fun t _=>t) (fun v _ ih t off=>ih (PT.lY (cF off off) (some v) t) (Nat.succ off)) l
theorem nW {α:Type}:∀ (l:List α) (t:PT α) (off:Nat),rA l t off=PT.ofList t off l
 | [],t,off=>rfl
 |v::l,t,off=>by
  show rA l (PT.lY (cF off off) (some v) t) (Nat.succ off)=_
  rw[nW l,PT.cX,bW];rfl
def Gw (c:PT Value) (n:Nat):Nat→Option (List Value):=
 Nat.rec (motive:=fun _=>Nat→Option (List Value)) (fun _=>some []) (fun _ ih off=>Option.rec (motive:=fun _=>Option (List Value)) none (fun v=>Option.rec (motive:=fun _=>Option (List Value)) none (fun l=>some (v::l)) (ih (Nat.succ off))) (PT.jm (cF off off) c)) n
theorem yJ (c:PT Value):∀ (n off:Nat),Gw c n off=aP c off n
 |0,off=>rfl
 |n+1,off=>by
  show Option.rec (motive:=fun _=>Option (List Value)) none (fun v=>Option.rec (motive:=fun _=>Option (List Value)) none (fun l=>some (v::l)) (Gw c n (Nat.succ off))) (PT.jm (cF off off) c)=_
  rw[yJ c n,PT.eo,bW]
  conv=>rhs;rw[aP]
  unfold PT.get
  cases PT.ef (bits off off) c with
  |none=>rfl
  |some v=>simp only;cases aP c (Nat.succ off) n<;>rfl
def tq (P:Program) (t:TypeId) (x:Value):AP Value:=
 match x with
 | .pointer (some a)=>Option.rec (motive:=fun _=>AP Value) (.fail "load") (fun i=>Option.rec (motive:=fun _=>AP Value) (.fail "load") (fun d => .get a.block fun B=>ak.rec (motive:=fun _=>AP Value)
   (fun c _=>Bool.rec (motive:=fun _=>AP Value) (Option.rec (motive:=fun _=>AP Value) (.fail "load") .pure (PT.jm (cF a.off a.off) c)) (Option.rec (motive:=fun _=>AP Value) (.fail "load") (fun l => .pure (.agg ⟨l⟩)) (Gw c i.size a.off)) (isAgg d))
   (fun _ _ => .fail "load") (fun _ _ _ _ => .fail "load") (fun _ _ _ _ _ _ => .fail "load") (.fail "load") B) (P.underlying t)) (P.info? t)
 | _ => .fail "load"
theorem u9 (P:Program) (t:TypeId) (x:Value):tq P t x=dX P t x:=by
 unfold tq dX
 cases x with
 |pointer a=>
  cases a with
  |none=>rfl
  |some a=>
   simp only
   cases P.info? t with
   |none=>rfl
   |some i=>
    cases P.underlying t with
    |none=>rfl
    |some d=>
     simp only
     congr 1
     funext B
     cases B with
     |cells c ro=>
      simp only[PT.eo,bW,yJ,PT.get]
      cases isAgg d with
      |false=>simp only[cond_false];cases PT.ef (bits a.off a.off) c<;>rfl
      |true=>simp only[cond_true];cases aP c a.off i.size<;>rfl
     | _=>rfl
 | _=>rfl
def Bb (l:List Value):PT Value→Nat→Option (PT Value):=
 List.rec (motive:=fun _=>PT Value→Nat→Option (PT Value)) (fun c _=>some c) (fun v _ ih c off=>Option.rec (motive:=fun _=>Option (PT Value)) none (fun _=>Bool.rec (motive:=fun _=>Option (PT Value)) none (ih (PT.lY (cF off off) (some v) c) (Nat.succ off)) (bn v)) (PT.jm (cF off off) c)) l
theorem u_:∀ (l:List Value) (c:PT Value) (off:Nat),Bb l c off=bt c off l
 | [],c,off=>rfl
 |v::l,c,off=>by
  show Option.rec (motive:=fun _=>Option (PT Value)) none (fun _=>Bool.rec (motive:=fun _=>Option (PT Value)) none (Bb l (PT.lY (cF off off) (some v) c) (Nat.succ off)) (bn v)) (PT.jm (cF off off) c)=_
  rw[u_ l,PT.eo,PT.cX,bW]
  conv=>rhs;rw[bt]
  unfold PT.get PT.set
  cases PT.ef (bits off off) c with
  |none=>rfl
  |some _=>simp only;cases bn v<;>rfl
def wE (P:Program) (t:TypeId) (x v:Value):AP Unit:=
 match x with
 | .pointer (some a)=>Option.rec (motive:=fun _=>AP Unit) (.fail "store") (fun i=>Bool.rec (motive:=fun _=>AP Unit) (.fail "store") (.get a.block fun B=>ak.rec (motive:=fun _=>AP Unit)
   (fun c ro=>Bool.rec (motive:=fun _=>AP Unit) (Option.rec (motive:=fun _=>AP Unit) (.fail "store") (fun c' => .set a.block (.cells c' false) (.pure ())) (Bb v.cells.toList c a.off)) (.fail "store") ro)
   (fun _ _ => .fail "store") (fun _ _ _ _ => .fail "store") (fun _ _ _ _ _ _ => .fail "store") (.fail "store") B) (Nat.beq (A_ v.cells.toList) i.size)) (P.info? t)
 | _ => .fail "store"
theorem Bc (P:Program) (t:TypeId) (x v:Value):wE P t x v=jX P t x v:=by
 unfold wE jX
 cases x with
 |pointer a=>
  cases a with
  |none=>rfl
  |some a=>
   simp only
   cases P.info? t with
   |none=>rfl
   |some i=>
    simp only[oO]
    cases Nat.beq v.cells.toList.length i.size with
    |false=>rfl
    |true=>
     simp only[cond_true]
     congr 1
     funext B
     cases B with
     |cells c ro=>
      cases ro with
      |true=>rfl
      |false=>simp only[u_];cases bt c a.off v.cells.toList<;>rfl
     | _=>rfl
 | _=>rfl
def oP (l:List Value):AP Value := .new (.cells (rA l .leaf 0) false) fun id => .pure (.pointer (some ⟨id,0,none⟩))
theorem nX (l:List Value):oP l=newRow l:=by unfold oP newRow;rw[nW]
def rB (P:Program) (t:TypeId):AP Value:=Option.rec (motive:=fun _=>AP Value) (.fail "alloc") (fun z=>oP z.cells.toList) (zeroOf P t)
theorem tA (P:Program) (t:TypeId):rB P t=nH P t:=by
 unfold rB nH;cases zeroOf P t<;>first |rfl |exact nX _
def Bd (ops:List Oper) (m:Tm) (j:Nat) (want:Bool):Bool:=
 Option.rec (motive:=fun _=>Bool) false (fun o=>Option.rec (motive:=fun _=>Bool) false (fun d=>match m.jm d with | .bool b=>b==want | _=>false) o.dst) (qW ops j)
theorem DM (ops:List Oper) (m:Tm) (j:Nat) (want:Bool) (o:Oper) (h:o.guard=some (j,want)):Bd ops m j want=bJ ops m o:=by
 unfold Bd bJ fc
 rw[h,kH]
 simp only
 cases ops[j]? with
 |none=>rfl
 |some q=>
  simp only
  cases q.dst with
  |none=>rfl
  |some d=>
   simp only[Tm.eo]
   cases m.get d<;>rfl
def Tm.Gx (m:Tm) (x:Operand):Value:=
 Operand.rec (motive:=fun _=>Tm→Value) (fun i m=>m.jm i) (fun v _=>v) (fun g _ => .pointer (some ⟨g,0,none⟩)) (fun f _ => .func (.func f) ⟨[]⟩ ⟨[]⟩) x m
theorem Tm.yK (m:Tm):m.Gx=m.eval:=by
 funext x;cases x<;>first |rfl |exact Tm.eo m _
def dD {α β:Type} (r:aH α) (k:α→HS→aH β):aH β:=aH.rec (motive:=fun _=>aH β) .fail k r
theorem bI {α β:Type} (r:aH α) (k:α→HS→aH β):dD r k=bH r k:=by cases r<;>rfl
def Ud (lim id:Nat) (s:HS):HS:=Bool.rec (motive:=fun _=>HS) s (HS.rec (motive:=fun _=>HS) (fun h n rd wr=>⟨h,n,ins id rd,wr⟩) s) (Nat.blt id lim)
def lY (lim id:Nat) (b:Option ak) (s:HS):HS:=HS.rec (motive:=fun _=>HS) (fun h n rd wr=>⟨PT.lY (cF id id) b h,n,rd,Bool.rec (motive:=fun _=>List Nat) wr (ins id wr) (Nat.blt id lim)⟩) s
def Kn (b:ak) (s:HS):HS:=HS.rec (motive:=fun _=>HS) (fun h n rd wr=>⟨PT.lY (cF n n) (some b) h,Nat.succ n,rd,wr⟩) s
def AP.wF {α:Type} (lim:Nat) (p:AP α):HS→aH α:=
 AP.rec (motive:=fun _=>HS→aH α)
  (fun a s => .ok a s)
  (fun w _ => .fail w)
  (fun id _ ih s=>Option.rec (motive:=fun _=>aH α) (.fail "get") (fun b=>ih b (Ud lim id s)) (PT.jm (cF id id) s.heap))
  (fun id b _ ih s=>Option.rec (motive:=fun _=>aH α) (.fail "set") (fun _=>ih (lY lim id (some b) s)) (PT.jm (cF id id) s.heap))
  (fun id _ ih s=>Option.rec (motive:=fun _=>aH α) (.fail "kill") (fun _=>ih (lY lim id none s)) (PT.jm (cF id id) s.heap))
  (fun b _ ih s=>ih s.next (Kn b s)) p
theorem pS (lim id:Nat) (s:HS):Ud lim id s=cond (Nat.blt id lim) { s with rd:=ins id s.rd } s:=by
 unfold Ud;cases Nat.blt id lim<;>rfl
theorem cX (lim id:Nat) (b:Option ak) (s:HS):lY lim id b s=cond (Nat.blt id lim) { s with heap:=s.heap.set id b,wr:=ins id s.wr } { s with heap:=s.heap.set id b }:=by
 unfold lY PT.set;cases s;simp only[PT.cX,bW];cases Nat.blt id lim<;>rfl
theorem Ko (b:ak) (s:HS):Kn b s={ s with heap:=s.heap.set s.next (some b),next:=Nat.succ s.next }:=by
 unfold Kn PT.set;cases s;simp only[PT.cX,bW]
theorem AP.kI {α:Type} (lim:Nat):∀ (p:AP α) (s:HS),p.wF lim s=p.run lim s
 | .pure a,s=>rfl
 | .fail w,s=>rfl
 | .get id k,s=>by
  show Option.rec (motive:=fun _=>aH α) (.fail "get") (fun b=>(k b).wF lim (Ud lim id s)) (PT.jm (cF id id) s.heap)=_
  simp only[AP.run,PT.get,PT.eo,bW,pS]
  cases PT.ef (bits id id) s.heap with
  |none=>rfl
  |some b=>exact AP.kI lim (k b) _
 | .set id b k,s=>by
  show Option.rec (motive:=fun _=>aH α) (.fail "set") (fun _=>k.wF lim (lY lim id (some b) s)) (PT.jm (cF id id) s.heap)=_
  simp only[AP.run,PT.get,PT.eo,bW,cX]
  cases PT.ef (bits id id) s.heap with
  |none=>rfl
  |some _=>exact AP.kI lim k _
 | .kill id k,s=>by
  show Option.rec (motive:=fun _=>aH α) (.fail "kill") (fun _=>k.wF lim (lY lim id none s)) (PT.jm (cF id id) s.heap)=_
  simp only[AP.run,PT.get,PT.eo,bW,cX]
  cases PT.ef (bits id id) s.heap with
  |none=>rfl
  |some _=>exact AP.kI lim k _
 | .new b k,s=>by
  show (k s.next).wF lim (Kn b s)=_
  simp only[AP.run,Ko]
  exact AP.kI lim (k s.next) _
def AP.va {α β:Type} (p:AP α) (f:α→AP β):AP β:=
 AP.rec (motive:=fun _=>AP β) f .fail (fun id _ ih => .get id ih) (fun id b _ ih => .set id b ih) (fun id _ ih => .kill id ih) (fun b _ ih => .new b ih) p
theorem AP.fA {α β:Type} (f:α→AP β):∀ (p:AP α),p.va f=p.bind f
 | .pure a=>rfl
 | .fail w=>rfl
 | .get id k=>congrArg (AP.get id) (funext fun b=>AP.fA f (k b))
 | .set id b k=>congrArg (AP.set id b) (AP.fA f k)
 | .kill id k=>congrArg (AP.kill id) (AP.fA f k)
 | .new b k=>congrArg (AP.new b) (funext fun i=>AP.fA f (k i))
def vZ (s:AP Value):AP aD:=s.va fun x => .pure (.value x)
def uZ (s:AP Unit):AP aD:=s.va fun _ => .pure .skip
theorem Mv (s:AP Value):vZ s=s.bind fun x => .pure (.value x):=AP.fA _ s
theorem Mw (s:AP Unit):uZ s=s.bind fun _ => .pure .skip:=AP.fA _ s
def OP (P:Program) (ρ:Operand→Value) (o:Op):AP aD:=
 Op.rec (motive:=fun _=>Program→(Operand→Value)→AP aD)
  (fun x P ρ => .pure (.value (ρ x)))
  (fun x P ρ => .pure (.value (ρ x)))
  (fun c a b P ρ=>match ρ c with | .bool t => .pure (.value (cond t (ρ a) (ρ b))) | _ => .fail "pick")
  (fun e P ρ=>vZ (rB P e))
  (fun _ x P ρ=>vZ (oP (ρ x).cells.toList))
  (fun t ps P ρ=>vZ (nI P t (ps.toList.map fun p=>(p.1,ρ p.2))))
  (fun t n ps P ρ=>vZ (eu P t n (ps.toList.map fun p=>(p.1,ρ p.2))))
  (fun t m k x P ρ=>uZ (ez P t (ρ m) (ρ k) (ρ x)))
  (fun t a P ρ=>vZ (tq P t (ρ a)))
  (fun t a x P ρ=>uZ (wE P t (ρ a) (ρ x)))
  (fun _ P ρ => .fail "operation")
  (fun _ P ρ => .fail "operation")
  (fun x P ρ=>vZ (iN (ρ x)))
  (fun op t x y _ P ρ=>vZ (dR P op t (isConst x) (isConst y) (ρ x) (ρ y)))
  (fun op _ x P ρ=>vZ (.opt "unOp" (lp op (ρ x)) .pure))
  (fun s d x P ρ=>vZ (iW P s d (ρ x)))
  (fun _ _ P ρ => .fail "operation")
  (fun t x P ρ=>vZ (cR P t (ρ x)))
  (fun fn first captured P ρ=>cond (iD fn) (.pure (.value (.func fn ⟨first.toList.map ρ⟩ ⟨captured.toList.map ρ⟩))) (.fail "makeFunc"))
  (fun t r P ρ=>vZ (lB P t (r.map ρ)))
  (fun _ _ P ρ => .fail "operation")
  (fun t l c P ρ=>vZ (fL P t (ρ l) (ρ c)))
  (fun t x lo hi mx P ρ=>vZ (nK P t (ρ x) (lo.map ρ) (hi.map ρ) (mx.map ρ)))
  (fun s x f P ρ=>vZ (ew P s (ρ x) f))
  (fun t x f P ρ=>vZ (nJ P t (ρ x) f))
  (fun t x i P ρ=>vZ (dI P t (ρ x) (ρ i)))
  (fun t x i P ρ=>vZ (lq P t (ρ x) (ρ i)))
  (fun t x i ok P ρ=>vZ (jY P t (ρ x) (ρ i) ok))
  (fun t m k x P ρ=>uZ (ez P t (ρ m) (ρ k) (ρ x)))
  (fun _ _ _ P ρ => .fail "operation")
  (fun _ _ _ _ P ρ => .fail "operation")
  (fun t x P ρ=>vZ (rI P t (ρ x)))
  (fun x b P ρ=>vZ (xq (ρ x) b))
  (fun x P ρ=>vZ (rJ (ρ x)))
  (fun x _ t ok P ρ=>vZ (gV P (ρ x) t ok))
  (fun x i P ρ=>vZ (gW (ρ x) i))
  (fun c P ρ=>oh P ρ c)
  (fun _ P ρ => .fail "operation")
  (fun _ P ρ => .fail "operation")
  (fun _ P ρ => .fail "operation")
  (fun _ _ P ρ => .fail "operation")
  (fun _ _ _ P ρ => .fail "operation")
  (fun _ _ P ρ => .fail "operation")
  o P ρ
theorem Kq (P:Program) (ρ:Operand→Value) (o:Oper):OP P ρ o.op=jk P ρ o:=by
 unfold jk
 cases h:o.op<;>first |rfl |exact Mv _ |exact Mw _ | (simp only[OP,Mv,Mw,u9,Bc,tA,nX];done)
section
variable (P:Program) (O:Over) (ev:fU)
def lZ (lim:Nat) (m:Tm) (rs:List ResultVar):HS→aH (List Value):=
 List.rec (motive:=fun _=>HS→aH (List Value)) (fun s => .ok [] s)
  (fun r _ ih s=>ResultVar.rec (motive:=fun _=>aH (List Value)) (fun t=>dD (ih s) fun l s => .ok (m.jm t::l) s) (fun a t=>dD ((tq P t (m.jm a)).wF lim s) fun v s=>dD (ih s) fun l s => .ok (v::l) s) r) rs
theorem l5 (lim:Nat) (m:Tm):∀ (rs:List ResultVar) (s:HS),lZ P lim m rs s=b8 P lim m rs s
 | [],s=>rfl
 | .tmp t::rs,s=>by
  show dD (lZ P lim m rs s) (fun l s => .ok (m.jm t::l) s)=bH (b8 P lim m rs s) fun l s => .ok (m.get t::l) s
  rw[bI,l5 lim m rs,Tm.eo]
 | .cell a t::rs,s=>by
  show dD ((tq P t (m.jm a)).wF lim s) (fun v s=>dD (lZ P lim m rs s) fun l s => .ok (v::l) s)=bH ((dX P t (m.get a)).run lim s) fun v s=>bH (b8 P lim m rs s) fun l s => .ok (v::l) s
  rw[bI,AP.kI,u9,Tm.eo]
  congr 1
  funext v s
  rw[bI,l5 lim m rs]
def Be (lim:Nat) (rs:List ResultVar) (x:aV×Tm) (s:HS):aH Value:=
 Prod.rec (motive:=fun _=>aH Value) (fun e m=>aV.rec (motive:=fun _=>aH Value) (dD (dO lim m.eS s) fun _ s=>dD (lZ P lim m rs s) fun l s => .ok (oneOf l) s) (fun _ => .fail "exit out of a body") (dD (dO lim m.eS s) fun _ s=>dD (lZ P lim m rs s) fun l s => .ok (oneOf l) s) e) x
theorem DN (lim:Nat) (rs:List ResultVar) (x:aV×Tm) (s:HS):Be P lim rs x s=gI P lim rs x s:=by
 obtain⟨e,m⟩:=x
 cases e<;>simp only[Be,gI,bI,l5]
def Gy (lim:Nat) (f:FuncId) (args:List Value) (s:HS):aH Value:=
 Option.rec (motive:=fun _=>aH Value) (.fail "no function") (fun fn=>Option.rec (motive:=fun _=>aH Value) (.fail "no body") (fun c=>dD (ev none lim c ⟨args.length+(fn.ntmps-args.length),rA args .leaf 0,[]⟩ s) fun x s=>Be P lim fn.results.toList x s) fn.body) (P.funcs[f]?)
theorem Gz (lim:Nat) (f:FuncId) (args:List Value) (s:HS):Gy P ev lim f args s=fk P ev lim f args s:=by
 unfold Gy fk
 cases P.funcs[f]? with
 |none=>rfl
 |some fn=>
  simp only
  cases fn.body with
  |none=>rfl
  |some c=>simp only[bI,DN,nW]
def yL (lim:Nat) (f:FuncId) (args:List Value) (s:HS):aH Value:=
 Option.rec (motive:=fun _=>aH Value) (Gy P ev lim f args s) (fun m=>m.wF lim s) (O f args)
theorem yM (lim:Nat) (f:FuncId) (args:List Value) (s:HS):yL P O ev lim f args s=eB P O ev lim f args s:=by
 unfold yL eB
 cases O f args with
 |none=>exact Gz P ev lim f args s
 |some m=>exact AP.kI lim m s
def GD (lim:Nat) (x:aD) (s:HS):aH Value:=
 aD.rec (motive:=fun _=>aH Value) (fun v => .ok v s) (.ok cZ s) (fun f args=>yL P O ev lim f args s) (fun l m as_ bd=>fN ev lim l m as_ bd s) x
theorem yN (lim:Nat) (x:aD) (s:HS):GD P O ev lim x s=eC P O ev lim x s:=by
 cases x<;>first |rfl |exact yM P O ev lim _ _ s
def Kr (lim:Nat) (m:Tm) (op:Op) (s:HS):aH Value:=
 Bool.rec (motive:=fun _=>aH Value) (.fail "an address among the constants") (dD ((OP P m.Gx op).wF lim s) (GD P O ev lim)) (op.operands.toList.all aX)
theorem Ks (lim:Nat) (m:Tm) (o:Oper) (s:HS):Kr P O ev lim m o.op s=iE P O ev lim m.eval o s:=by
 unfold Kr iE
 cases o.op.operands.toList.all aX with
 |false=>rfl
 |true=>
  simp only[cond_true,bI,AP.kI,Tm.yK,Kq]
  congr 1
  funext x s
  exact yN P O ev lim x s
def OQ (d:Option Nat) (v:Value) (m:Tm) (s:HS):aH Tm:=
 Option.rec (motive:=fun _=>aH Tm) (.ok m s) (fun i=>Tm.rec (motive:=fun _=>aH Tm) (fun n t eS=>Bool.rec (motive:=fun _=>aH Tm) (.fail "slot") (.ok ⟨n,PT.lY (cF i i) (some v) t,eS⟩ s) (Nat.blt i n)) m) d
theorem Kt (d:Option Nat) (v:Value) (m:Tm) (s:HS):OQ d v m s=iF m d v s:=by
 unfold OQ iF Tm.put PT.set
 cases d with
 |none=>rfl
 |some i=>
  cases m with
  |mk n t eS=>
   simp only[PT.cX,bW]
   cases Nat.blt i n<;>rfl
def Rx (lim:Nat) (ops:List Oper) (o:Oper) (m:Tm) (s:HS):aH Tm:=
 Oper.rec (motive:=fun _=>aH Tm) (fun dst op _ _ _ guard=>
  dD (Option.rec (motive:=fun _=>aH Value) (Kr P O ev lim m op s) (fun g=>Prod.rec (motive:=fun _=>aH Value) (fun j want=>Bool.rec (motive:=fun _=>aH Value) (.ok cZ s) (Kr P O ev lim m op s) (Bd ops m j want)) g) guard) fun v s=>OQ dst v m s) o
theorem GF (lim:Nat) (ops:List Oper) (o:Oper) (m:Tm) (s:HS):Rx P O ev lim ops o m s=kS P O ev lim ops o m s:=by
 unfold Rx kS
 obtain⟨dst,op,ty,pos,after,guard⟩:=o
 simp only[bI,Kt]
 congr 1
 have e:=Ks P O ev lim m ⟨dst,op,ty,pos,after,guard⟩ s
 simp only at e
 cases guard with
 |none=>exact e
 |some g=>
  obtain⟨j,want⟩:=g
  simp only[DM ops m j want ⟨dst,op,ty,pos,after,some (j,want)⟩ rfl,e]
  cases bJ ops m ⟨dst,op,ty,pos,after,some (j,want)⟩<;>rfl
def OS (lim:Nat) (ops:List Oper) (l:List Oper):Tm→HS→aH Tm:=
 List.rec (motive:=fun _=>Tm→HS→aH Tm) (fun m s => .ok m s) (fun o _ ih m s=>dD (Rx P O ev lim ops o m s) ih) l
theorem Cd (lim:Nat) (ops:List Oper):∀ (l:List Oper) (m:Tm) (s:HS),OS P O ev lim ops l m s=gX P O ev lim ops l m s
 | [],m,s=>rfl
 |o::l,m,s=>by
  show dD (Rx P O ev lim ops o m s) (OS P O ev lim ops l)=bH (kS P O ev lim ops o m s) fun m s=>gX P O ev lim ops l m s
  rw[bI,GF]
  congr 1
  funext m s
  exact Cd lim ops l m s
def GG (ops:List Oper) (l:List Oper):Tm→PT ak→Nat→aH (Tm×List bD):=
 List.rec (motive:=fun _=>Tm→PT ak→Nat→aH (Tm×List bD)) (fun m h n => .ok (m,[]) ⟨h,n,[],[]⟩)
  (fun o _ ih m h n=>dD (Rx P O ev n ops o m ⟨h,n,[],[]⟩) fun m s=>HS.rec (motive:=fun _=>aH (Tm×List bD)) (fun h' n' rd wr=>dD (ih m h' n') fun x s'=>Prod.rec (motive:=fun _=>aH (Tm×List bD)) (fun y fs => .ok (y,⟨n,n',rd,wr⟩::fs) s') x) s) l
theorem yO (ops:List Oper):∀ (l:List Oper) (m:Tm) (h:PT ak) (n:Nat),GG P O ev ops l m h n=gY P O ev ops l m h n
 | [],m,h,n=>rfl
 |o::l,m,h,n=>by
  show dD (Rx P O ev n ops o m ⟨h,n,[],[]⟩) (fun m s=>HS.rec (motive:=fun _=>aH (Tm×List bD)) (fun h' n' rd wr=>dD (GG P O ev ops l m h' n') fun x s'=>Prod.rec (motive:=fun _=>aH (Tm×List bD)) (fun y fs => .ok (y,⟨n,n',rd,wr⟩::fs) s') x) s)=bH (kS P O ev n ops o m ⟨h,n,[],[]⟩) fun m s=>bH (gY P O ev ops l m s.heap s.next) fun x s' => .ok (x.1,⟨n,s.next,s.rd,s.wr⟩::x.2) s'
  rw[bI,GF]
  congr 1
  funext m s
  cases s
  simp only[bI,yO ops l]
def GH (lim:Nat) (ops:List Oper) (m:Tm) (s:HS):aH Tm:=
 Option.rec (motive:=fun _=>aH Tm) (.fail "operations whose order is open share a slot")
  (fun L=>HS.rec (motive:=fun _=>aH Tm) (fun h n rd wr=>dD (GG P O ev ops ops m h n) fun x s'=>Prod.rec (motive:=fun _=>aH Tm) (fun y fs=>
   Bool.rec (motive:=fun _=>aH Tm) (.fail "operations whose order is open touch one block")
    (HS.rec (motive:=fun _=>aH Tm) (fun h' n' _ _ => .ok y (Bool.rec (motive:=fun _=>HS) (A8 lim h' n' fs rd wr) ⟨h',n',rd,wr⟩ (Nat.beq lim 0))) s')
    (wA fs L)) x) s)
  (Km ops)
theorem GI (lim:Nat) (ops:List Oper) (m:Tm) (s:HS):GH P O ev lim ops m s=eD P O ev lim ops m s:=by
 unfold GH eD
 rw[Cc]
 cases fO ops (aL (aO [] ops) ops.length) with
 |false=>rfl
 |true=>
  obtain⟨h,n,rd,wr⟩:=s
  simp only[cond_true,bI,yO]
  congr 1
  funext x s'
  obtain⟨y,fs⟩:=x
  simp only[pQ]
  cases cG fs (aL (aO [] ops) ops.length) with
  |false=>rfl
  |true=>
   cases s'
   simp only[cond_true,pR]
   cases Nat.beq lim 0<;>rfl
def qH:fU:=fun ro lim c m s=>
 Code.rec (motive:=fun _=>Program→Over→fU→Option Nat→Nat→Tm→HS→aH (aV×Tm))
  (fun _ _ _ _ _ m s => .ok (.normal,m) s)
  (fun _ ops draw P O ev ro lim m s=>dD (Bool.rec (motive:=fun _=>aH Tm) (OS P O ev lim ops.toList ops.toList m s) (GH P O ev lim ops.toList m s) draw) fun m s => .ok (.normal,m) s)
  (fun a b _ _ P O ev ro lim m s=>dD (ev ro lim a m s) fun x s=>Prod.rec (motive:=fun _=>aH (aV×Tm)) (fun e m=>aV.rec (motive:=fun _=>aH (aV×Tm)) (ev ro lim b m s) (fun i => .ok (.exit i,m) s) (.ok (.ret,m) s) e) x)
  (fun c a b _ _ P O ev ro lim m s=>cond (aX c) (match m.Gx c with
   | .bool t=>Bool.rec (motive:=fun _=>aH (aV×Tm)) (ev ro lim b m s) (ev ro lim a m s) t
   | _ => .fail "cond") (.fail "cond"))
  (fun id c _ P O ev ro lim m s=>dD (ev ro lim c m s) fun x s=>Prod.rec (motive:=fun _=>aH (aV×Tm)) (fun e m=>aV.rec (motive:=fun _=>aH (aV×Tm)) (.ok (.normal,m) s) (fun i => .ok (cond (Nat.beq i id) .normal (.exit i),m) s) (.ok (.ret,m) s) e) x)
  (fun c _ P O ev ro lim m s=>dD (ev ro lim c m s) fun x s=>Prod.rec (motive:=fun _=>aH (aV×Tm)) (fun e m=>aV.rec (motive:=fun _=>aH (aV×Tm)) (ev ro lim (.loop c) m s) (fun i => .ok (.exit i,m) s) (.ok (.ret,m) s) e) x)
  (fun g ps assign body _ _ P O ev ro lim m s=>eE P O ev ro lim g ps.toList assign body m s)
  (fun id _ _ _ _ _ m s => .ok (.exit id,m) s)
  (fun c _ P O ev ro lim m s=>ev ro lim c m s)
  (fun _ _ _ _ _ _ m s => .ok (.normal,m) s)
  (fun _ _ _ _ _ _ m s => .fail "code")
  (fun _ _ _ _ _ m s => .ok (.ret,m) s)
  (fun _ _ _ _ _ _ m s => .fail "code") c P O ev ro lim m s
theorem GJ:qH P O ev=aY P O ev:=by
 funext ro lim c m s
 cases c with
 |region i ops draw=>
  simp only[qH,aY,bI,Cd,GI]
  congr 1
  cases draw<;>rfl
 |seq a b=>
  simp only[qH,aY,bI]
  congr 1;funext x s;obtain⟨e,m⟩:=x;cases e<;>rfl
 |block i c=>
  simp only[qH,aY,bI]
  congr 1;funext x s;obtain⟨e,m⟩:=x;cases e<;>rfl
 |loop c=>
  simp only[qH,aY,bI]
  congr 1;funext x s;obtain⟨e,m⟩:=x;cases e<;>rfl
 |cond c a b=>
  simp only[qH,aY,Tm.yK]
  cases aX c with
  |false=>rfl
  |true=>
   simp only[cond_true]
   cases m.eval c with
   |bool t=>cases t<;>rfl
   | _=>rfl
 | _=>rfl
def evZ (n:Nat):fU:=Nat.rec (motive:=fun _=>fU) (fun _ _ _ _ _ => .fail "fuel") (fun _ ev=>qH P O ev) n
theorem Bf:∀ n,evZ P O n=jW P O n
 |0=>rfl
 |n+1=>by
  show qH P O (evZ P O n)=aY P O (jW P O n)
  rw[Bf n,GJ]
def GK (fuel:Nat) (f:FuncId):Bool:=isTrue (yL P O (evZ P O fuel) 0 f [] oo)
theorem Ce (fuel:Nat) (f:FuncId):GK P O fuel f=rq P O fuel f:=by
 unfold GK rq
 rw[yM,Bf]
end
end Go.Am
set_option linter.unusedVariables false
set_option linter.unusedSimpArgs false
noncomputable section
namespace Go.Am
open Go.RowKit
structure OT (α:Type) where
 fn:PT α→Option α
def wG {α:Type} (k:List Bool):OT α:=
 List.rec (motive:=fun _=>OT α) ⟨fun t=>PT.rec (motive:=fun _=>Option α) none (fun _ v _ _ _=>v) t⟩
  (fun b _ ih=>Bool.rec (motive:=fun _=>OT α) ⟨fun t=>PT.rec (motive:=fun _=>Option α) none (fun l _ _ _ _=>ih.fn l) t⟩ ⟨fun t=>PT.rec (motive:=fun _=>Option α) none (fun _ _ r _ _=>ih.fn r) t⟩ b) k
theorem kJ {α:Type}:∀ (k:List Bool) (t:PT α),(wG k).fn t=PT.ef k t
 | [],.leaf=>rfl
 | [],.node _ _ _=>rfl
 |true::k,.leaf=>rfl
 |false::k,.leaf=>rfl
 |true::k,.node _ _ r=>kJ k r
 |false::k,.node l _ _=>kJ k l
structure SetB (α:Type) where
 fn:Option α→PT α→PT α
def setB {α:Type} (k:List Bool):SetB α:=
 List.rec (motive:=fun _=>SetB α) ⟨fun v t=>PT.rec (motive:=fun _=>PT α) (.node .leaf v .leaf) (fun l _ r _ _ => .node l v r) t⟩
  (fun b _ ih=>Bool.rec (motive:=fun _=>SetB α) ⟨fun v t=>PT.rec (motive:=fun _=>PT α) (.node (ih.fn v .leaf) none .leaf) (fun l u r _ _ => .node (ih.fn v l) u r) t⟩
   ⟨fun v t=>PT.rec (motive:=fun _=>PT α) (.node .leaf none (ih.fn v .leaf)) (fun l u r _ _ => .node l u (ih.fn v r)) t⟩ b) k
theorem jy {α:Type} (v:Option α):∀ (k:List Bool) (t:PT α),(setB k).fn v t=PT.cP k v t
 | [],.leaf=>rfl
 | [],.node _ _ _=>rfl
 |true::k,.leaf=>congrArg (PT.node .leaf none) (jy v k .leaf)
 |false::k,.leaf=>congrArg (fun x=>PT.node x none .leaf) (jy v k .leaf)
 |true::k,.node l u r=>congrArg (PT.node l u) (jy v k r)
 |false::k,.node l u r=>congrArg (fun x=>PT.node x u r) (jy v k l)
def gy {β:Type} (n:Nat) (f:Nat→β):β:=Nat.rec (motive:=fun _=>β) (f 0) (fun n _=>f (Nat.succ n)) n
theorem fR {β:Type} (n:Nat) (f:Nat→β):gy n f=f n:=by cases n<;>rfl
def OU (i:Nat) (t:PT Value):Option Value:=gy i fun i=>(wG (cF i i)).fn t
def l6 (i:Nat) (t:PT ak):Option ak:=gy i fun i=>(wG (cF i i)).fn t
def Bg (i:Nat) (v:Option ak) (t:PT ak):PT ak:=gy i fun i=>(setB (cF i i)).fn v t
theorem Ku (i:Nat) (t:PT Value):OU i t=t.get i:=by unfold OU PT.get;rw[fR,kJ,bW]
theorem iJ (i:Nat) (t:PT ak):l6 i t=t.get i:=by unfold l6 PT.get;rw[fR,kJ,bW]
theorem wH (i:Nat) (v:Option ak) (t:PT ak):Bg i v t=t.set i v:=by unfold Bg PT.set;rw[fR,jy,bW]
structure Ry (α:Type) where
 fn:Tm→α
def GL (i:Nat):Ry Value:=⟨fun m=>Tm.rec (motive:=fun _=>Value) (fun _ t _=>Option.rec (motive:=fun _=>Value) cZ (fun v=>v) ((wG (cF i i)).fn t)) m⟩
theorem yP (i:Nat) (m:Tm):(GL i).fn m=m.get i:=by
 obtain⟨n,t,d⟩:=m
 show Option.rec (motive:=fun _=>Value) cZ (fun v=>v) ((wG (cF i i)).fn t)=_
 rw[kJ,bW]
 show _=match PT.ef (bits i i) t with |some v=>v |none=>cZ
 cases PT.ef (bits i i) t<;>rfl
def jz (x:Operand):Ry Value:=Operand.rec (motive:=fun _=>Ry Value) (fun i=>GL i) (fun v=>⟨fun _=>v⟩) (fun g=>⟨fun _ => .pointer (some ⟨g,0,none⟩)⟩) (fun f=>⟨fun _ => .func (.func f) ⟨[]⟩ ⟨[]⟩⟩) x
theorem jF (x:Operand) (m:Tm):(jz x).fn m=m.eval x:=by
 cases x<;>first |rfl |exact yP _ m
def Cf (m:Tm) (x:Operand):Value:=(jz x).fn m
theorem Bh (m:Tm):Cf m=m.eval:=funext fun x=>jF x m
def Mx (lim id:Nat) (s:HS):HS:=Bool.rec (motive:=fun _=>HS) s (HS.rec (motive:=fun _=>HS) (fun h n rd wr=>⟨h,n,ins id rd,wr⟩) s) (Nat.blt id lim)
def GM (lim id:Nat) (b:Option ak) (s:HS):HS:=HS.rec (motive:=fun _=>HS) (fun h n rd wr=>⟨Bg id b h,n,rd,Bool.rec (motive:=fun _=>List Nat) wr (ins id wr) (Nat.blt id lim)⟩) s
theorem tB (lim id:Nat) (s:HS):Mx lim id s=Ud lim id s:=rfl
theorem tC (lim id:Nat) (b:Option ak) (s:HS):GM lim id b s=lY lim id b s:=by
 cases s;simp only[GM,lY,wH,PT.cX,bW];rfl
def fT (p:AP Value) (lim:Nat) (s:HS):aH Value:=
 AP.rec (motive:=fun _=>Nat→HS→aH Value)
  (fun a _ s => .ok a s)
  (fun w _ _ => .fail w)
  (fun id _ ih lim s=>HS.rec (motive:=fun _=>aH Value) (fun h n rd wr=>Option.rec (motive:=fun _=>aH Value) (.fail "get") (fun b=>ih b lim (Mx lim id ⟨h,n,rd,wr⟩)) (l6 id h)) s)
  (fun id b _ ih lim s=>HS.rec (motive:=fun _=>aH Value) (fun h n rd wr=>Option.rec (motive:=fun _=>aH Value) (.fail "set") (fun _=>ih lim (GM lim id (some b) ⟨h,n,rd,wr⟩)) (l6 id h)) s)
  (fun id _ ih lim s=>HS.rec (motive:=fun _=>aH Value) (fun h n rd wr=>Option.rec (motive:=fun _=>aH Value) (.fail "kill") (fun _=>ih lim (GM lim id none ⟨h,n,rd,wr⟩)) (l6 id h)) s)
  (fun b _ ih lim s=>HS.rec (motive:=fun _=>aH Value) (fun h n rd wr=>gy n fun n=>ih n lim ⟨Bg n (some b) h,Nat.succ n,rd,wr⟩) s) p lim s
def runN (p:AP aD) (lim:Nat) (s:HS):aH aD:=
 AP.rec (motive:=fun _=>Nat→HS→aH aD)
  (fun a _ s => .ok a s)
  (fun w _ _ => .fail w)
  (fun id _ ih lim s=>HS.rec (motive:=fun _=>aH aD) (fun h n rd wr=>Option.rec (motive:=fun _=>aH aD) (.fail "get") (fun b=>ih b lim (Mx lim id ⟨h,n,rd,wr⟩)) (l6 id h)) s)
  (fun id b _ ih lim s=>HS.rec (motive:=fun _=>aH aD) (fun h n rd wr=>Option.rec (motive:=fun _=>aH aD) (.fail "set") (fun _=>ih lim (GM lim id (some b) ⟨h,n,rd,wr⟩)) (l6 id h)) s)
  (fun id _ ih lim s=>HS.rec (motive:=fun _=>aH aD) (fun h n rd wr=>Option.rec (motive:=fun _=>aH aD) (.fail "kill") (fun _=>ih lim (GM lim id none ⟨h,n,rd,wr⟩)) (l6 id h)) s)
  (fun b _ ih lim s=>HS.rec (motive:=fun _=>aH aD) (fun h n rd wr=>gy n fun n=>ih n lim ⟨Bg n (some b) h,Nat.succ n,rd,wr⟩) s) p lim s
theorem bZ:∀ (p:AP Value) (lim:Nat) (s:HS),fT p lim s=p.run lim s
 | .pure a,lim,s=>rfl
 | .fail w,lim,s=>rfl
 | .get id k,lim,⟨h,n,rd,wr⟩=>by
  show Option.rec (motive:=fun _=>aH Value) (.fail "get") (fun b=>fT (k b) lim (Mx lim id ⟨h,n,rd,wr⟩)) (l6 id h)=_
  simp only[AP.run,iJ,tB,pS]
  cases h.get id with
  |none=>rfl
  |some b=>exact bZ (k b) lim _
 | .set id b k,lim,⟨h,n,rd,wr⟩=>by
  show Option.rec (motive:=fun _=>aH Value) (.fail "set") (fun _=>fT k lim (GM lim id (some b) ⟨h,n,rd,wr⟩)) (l6 id h)=_
  simp only[AP.run,iJ,tC,cX]
  cases h.get id with
  |none=>rfl
  |some _=>exact bZ k lim _
 | .kill id k,lim,⟨h,n,rd,wr⟩=>by
  show Option.rec (motive:=fun _=>aH Value) (.fail "kill") (fun _=>fT k lim (GM lim id none ⟨h,n,rd,wr⟩)) (l6 id h)=_
  simp only[AP.run,iJ,tC,cX]
  cases h.get id with
  |none=>rfl
  |some _=>exact bZ k lim _
 | .new b k,lim,⟨h,n,rd,wr⟩=>by
  show gy n (fun n=>fT (k n) lim ⟨Bg n (some b) h,Nat.succ n,rd,wr⟩)=_
  rw[fR,wH]
  exact bZ (k n) lim _
theorem mU:∀ (p:AP aD) (lim:Nat) (s:HS),runN p lim s=p.run lim s
 | .pure a,lim,s=>rfl
 | .fail w,lim,s=>rfl
 | .get id k,lim,⟨h,n,rd,wr⟩=>by
  show Option.rec (motive:=fun _=>aH aD) (.fail "get") (fun b=>runN (k b) lim (Mx lim id ⟨h,n,rd,wr⟩)) (l6 id h)=_
  simp only[AP.run,iJ,tB,pS]
  cases h.get id with
  |none=>rfl
  |some b=>exact mU (k b) lim _
 | .set id b k,lim,⟨h,n,rd,wr⟩=>by
  show Option.rec (motive:=fun _=>aH aD) (.fail "set") (fun _=>runN k lim (GM lim id (some b) ⟨h,n,rd,wr⟩)) (l6 id h)=_
  simp only[AP.run,iJ,tC,cX]
  cases h.get id with
  |none=>rfl
  |some _=>exact mU k lim _
 | .kill id k,lim,⟨h,n,rd,wr⟩=>by
  show Option.rec (motive:=fun _=>aH aD) (.fail "kill") (fun _=>runN k lim (GM lim id none ⟨h,n,rd,wr⟩)) (l6 id h)=_
  simp only[AP.run,iJ,tC,cX]
  cases h.get id with
  |none=>rfl
  |some _=>exact mU k lim _
 | .new b k,lim,⟨h,n,rd,wr⟩=>by
  show gy n (fun n=>runN (k n) lim ⟨Bg n (some b) h,Nat.succ n,rd,wr⟩)=_
  rw[fR,wH]
  exact mU (k n) lim _
def DP (p:AP Unit) (lim:Nat) (s:HS):aH Value:=fT (p.va fun _ => .pure cZ) lim s
theorem fS {α β:Type} (f:α→AP β) (lim:Nat):∀ (p:AP α) (s:HS),(p.bind f).run lim s=bH (p.run lim s) fun a s=>(f a).run lim s
 | .pure a,s=>rfl
 | .fail w,s=>rfl
 | .get id k,s=>by
  simp only[AP.bind,AP.run]
  cases s.heap.get id with
  |none=>rfl
  |some b=>exact fS f lim (k b) _
 | .set id b k,s=>by
  simp only[AP.bind,AP.run]
  cases s.heap.get id with
  |none=>rfl
  |some _=>exact fS f lim k _
 | .kill id k,s=>by
  simp only[AP.bind,AP.run]
  cases s.heap.get id with
  |none=>rfl
  |some _=>exact fS f lim k _
 | .new b k,s=>fS f lim (k s.next) _
theorem yQ {α:Type} (r:aH α):bH r (fun a s => .ok a s)=r:=by cases r<;>rfl
section
variable (P:Program) (O:Over) (ev:fU)
theorem GN (lim:Nat) (p:AP Value) (s:HS):bH ((p.bind fun x => .pure (.value x)).run lim s) (fun x s=>eC P O ev lim x s)=fT p lim s:=by
 rw[fS,eP,bZ]
 exact yQ _
theorem DQ (lim:Nat) (p:AP Unit) (s:HS):bH ((p.bind fun _ => .pure .skip).run lim s) (fun x s=>eC P O ev lim x s)=DP p lim s:=by
 unfold DP
 rw[fS,eP,bZ,AP.fA,fS]
 rfl
end
def kK {β:Type} (v:Value) (f:IntKind→Int→β) (d:β):β:=match v with
 | .int k n=>f k n
 | _=>d
def kL {β:Type} (v:Value) (f:Addr→β) (d:β):β:=match v with
 | .pointer (some a)=>f a
 | _=>d
structure Rz where
 fn:Value→Nat→HS→aH Value
def iT (B:ak) (f:PT Value→Bool→aH Value) (d:aH Value):aH Value:=
 ak.rec (motive:=fun _=>aH Value) f (fun _ _=>d) (fun _ _ _ _=>d) (fun _ _ _ _ _ _=>d) d B
def yR (c:PT Value) (n:Nat):Nat→Option (List Value):=
 Nat.rec (motive:=fun _=>Nat→Option (List Value)) (fun _=>some []) (fun _ ih off=>gy off fun off=>Option.rec (motive:=fun _=>Option (List Value)) none (fun v=>Option.rec (motive:=fun _=>Option (List Value)) none (fun l=>some (v::l)) (ih (Nat.succ off))) ((wG (cF off off)).fn c)) n
theorem oQ (c:PT Value):∀ (n off:Nat),yR c n off=aP c off n
 |0,off=>rfl
 |n+1,off=>by
  show gy off (fun off=>Option.rec (motive:=fun _=>Option (List Value)) none (fun v=>Option.rec (motive:=fun _=>Option (List Value)) none (fun l=>some (v::l)) (yR c n (Nat.succ off))) ((wG (cF off off)).fn c))=_
  rw[fR,oQ c n,kJ,bW]
  conv=>rhs;rw[aP]
  unfold PT.get
  cases PT.ef (bits off off) c with
  |none=>rfl
  |some v=>simp only;cases aP c (Nat.succ off) n<;>rfl
def ldB (P:Program) (t:TypeId):Rz:=
 Option.rec (motive:=fun _=>Rz) ⟨fun _ _ _ => .fail "load"⟩ (fun i=>Option.rec (motive:=fun _=>Rz) ⟨fun _ _ _ => .fail "load"⟩ (fun d=>
  Bool.rec (motive:=fun _=>Rz)
   ⟨fun x lim s=>kL x (fun a=>HS.rec (motive:=fun _=>aH Value) (fun h n rd wr=>Option.rec (motive:=fun _=>aH Value) (.fail "get") (fun B=>iT B (fun c _=>Option.rec (motive:=fun _=>aH Value) (.fail "load") (fun v => .ok v (Mx lim a.block ⟨h,n,rd,wr⟩)) (OU a.off c)) (.fail "load")) (l6 a.block h)) s) (.fail "load")⟩
   ⟨fun x lim s=>kL x (fun a=>HS.rec (motive:=fun _=>aH Value) (fun h n rd wr=>Option.rec (motive:=fun _=>aH Value) (.fail "get") (fun B=>iT B (fun c _=>Option.rec (motive:=fun _=>aH Value) (.fail "load") (fun l => .ok (.agg ⟨l⟩) (Mx lim a.block ⟨h,n,rd,wr⟩)) (yR c i.size a.off)) (.fail "load")) (l6 a.block h)) s) (.fail "load")⟩
   (isAgg d)) (P.underlying t)) (P.info? t)
theorem OV (P:Program) (t:TypeId) (x:Value) (lim:Nat) (s:HS):(ldB P t).fn x lim s=(dX P t x).run lim s:=by
 unfold ldB dX
 cases P.info? t with
 |none=>cases x<;>first |rfl | (rename_i a;cases a<;>rfl)
 |some i=>
  cases P.underlying t with
  |none=>cases x<;>first |rfl | (rename_i a;cases a<;>rfl)
  |some d=>
   obtain⟨h,n,rd,wr⟩:=s
   cases hd:isAgg d with
   |false=>
    cases x with
    |pointer a=>
     cases a with
     |none=>simp only[hd];rfl
     |some a=>
      simp only[kL,AP.run,iJ,hd]
      cases h.get a.block with
      |none=>rfl
      |some B=>
       cases B with
       |cells c ro=>
        simp only[iT,Ku,cond_false,tB,pS]
        cases c.get a.off<;>rfl
       | _=>rfl
    | _=>simp only[hd];rfl
   |true=>
    cases x with
    |pointer a=>
     cases a with
     |none=>simp only[hd];rfl
     |some a=>
      simp only[kL,AP.run,iJ,hd]
      cases h.get a.block with
      |none=>rfl
      |some B=>
       cases B with
       |cells c ro=>
        simp only[iT,oQ,cond_true,tB,pS]
        cases aP c a.off i.size<;>rfl
       | _=>rfl
    | _=>simp only[hd];rfl
def Ue (P:Program) (s:TypeId) (f:Nat):Option Nat:=
 match P.underlying s with
 |some (.struct fs)=>match fs.toList[f]? with
  |some fd=>match P.info? fd.type with
   |some i=>cond (Nat.beq i.size 0) none (some fd.offset)
   |none=>none
  |none=>none
 | _=>none
def faB (P:Program) (t:TypeId) (f:Nat):Rz:=
 Option.rec (motive:=fun _=>Rz) ⟨fun _ _ _ => .fail "fieldAddr"⟩ (fun off=>⟨fun x _ s=>kL x (fun a=>Addr.rec (motive:=fun _=>aH Value) (fun b o _ => .ok (.pointer (some ⟨b,Nat.add o off,none⟩)) s) a) (.fail "fieldAddr")⟩) (Ue P t f)
theorem OW (P:Program) (t:TypeId) (f:Nat) (x:Value) (lim:Nat) (s:HS):(faB P t f).fn x lim s=(ew P t x f).run lim s:=by
 unfold faB Ue ew
 cases hu:P.underlying t with
 |none=>cases x<;>first |rfl | (rename_i a;cases a<;>rfl)
 |some d=>
  cases d with
  |struct fs=>
   simp only
   cases hf:fs.toList[f]? with
   |none=>cases x<;>first |rfl | (rename_i a;cases a<;>first |rfl |simp only[hf];rfl)
   |some fd=>
    simp only
    cases hi:P.info? fd.type with
    |none=>cases x<;>first |rfl | (rename_i a;cases a<;>first |rfl |simp only[hf,hi];rfl)
    |some i=>
     simp only
     cases hz:Nat.beq i.size 0 with
     |true=>cases x<;>first |rfl | (rename_i a;cases a<;>first |rfl |simp only[hf,hi,hz];rfl)
     |false=>cases x<;>first |rfl | (rename_i a;cases a<;>first |rfl | (simp only[hf,hi,hz];rfl))
  | _=>cases x<;>first |rfl | (rename_i a;cases a<;>rfl)
def kn (k:IntKind):Nat:=IntKind.rec (motive:=fun _=>Nat) 0 1 2 3 4 5 6 7 k
def GQ (k k':IntKind):Bool:=Nat.beq (kn k) (kn k')
theorem GR (k k':IntKind):GQ k k'=decide (k=k'):=by cases k<;>cases k'<;>rfl
def Kv (k:IntKind):Nat:=IntKind.rec (motive:=fun _=>Nat) 127 32767 2147483647 9223372036854775807 255 65535 4294967295 18446744073709551615 k
def Cg (k:IntKind) (n:Int):Int:=Int.rec (motive:=fun _=>Int) (fun a=>Bool.rec (motive:=fun _=>Int) (k.wrap (.ofNat a)) (.ofNat a) (Nat.ble a (Kv k))) (fun a=>k.wrap (.negSucc a)) n
theorem tD (k:IntKind) (n:Int):Cg k n=k.wrap n:=by
 cases n with
 |negSucc a=>rfl
 |ofNat a=>
  show Bool.rec (motive:=fun _=>Int) (k.wrap (.ofNat a)) (.ofNat a) (Nat.ble a (Kv k))=_
  cases h:Nat.ble a (Kv k) with
  |false=>rfl
  |true=>
   have h:=Nat.le_of_ble_eq_true h
   show Int.ofNat a=k.wrap (Int.ofNat a)
   cases k<;>simp[Kv,IntKind.wrap,IntKind.bits,IntKind.signed] at h ⊢<;>omega
def RA (x y:Int):Bool:=Int.rec (motive:=fun _=>Bool) (fun a=>Int.rec (motive:=fun _=>Bool) (fun b=>Nat.blt a b) (fun _=>false) y) (fun a=>decide (.negSucc a<y)) x
theorem Bi (x y:Int):RA x y=decide (x<y):=by
 cases x with
 |negSucc a=>rfl
 |ofNat a=>
  cases y with
  |negSucc b=>show false=_;symm;simp only[decide_eq_false_iff_not,Int.ofNat_eq_natCast];omega
  |ofNat b=>
   show Nat.blt a b=_
   rw[Ad]
   simp
def eqI (x y:Int):Bool:=Int.rec (motive:=fun _=>Bool) (fun a=>Int.rec (motive:=fun _=>Bool) (fun b=>Nat.beq a b) (fun _=>false) y) (fun a => .negSucc a==y) x
theorem GU (x y:Int):eqI x y=(x==y):=by
 cases x with
 |negSucc a=>rfl
 |ofNat a=>
  cases y with
  |negSucc b=>rfl
  |ofNat b=>
   show Nat.beq a b=_
   rw[su,Bool.eq_iff_iff]
   simp
   omega
def DR (b:Bool):Bool:=Bool.rec (motive:=fun _=>Bool) true false b
theorem Ch (b:Bool):DR b = !b:=by cases b<;>rfl
structure OX where
 fn:Value→Value→Nat→HS→aH Value
section
variable (P:Program)
def jV (op:BinOp) (t:TypeId) (cx cy:Bool) (x y:Value) (lim:Nat) (s:HS):aH Value:=fT (dR P op t cx cy x y) lim s
def nF (op:BinOp) (t:TypeId) (cx cy:Bool) (f:IntKind→Int→Int→Value):OX:=
 ⟨fun x y lim s=>kK x (fun k a=>kK y (fun k' b=>Bool.rec (motive:=fun _=>aH Value) (.fail "binOp") (.ok (f k a b) s) (GQ k k')) (jV P op t cx cy x y lim s)) (jV P op t cx cy x y lim s)⟩
theorem gA {op:BinOp} {t:TypeId} {cx cy:Bool} {f:IntKind→Int→Int→Value} (h:∀ k k' a b lim s,(dR P op t cx cy (.int k a) (.int k' b)).run lim s=if k=k' then .ok (f k a b) s else .fail "binOp") (x y:Value) (lim:Nat) (s:HS):
  (nF P op t cx cy f).fn x y lim s=(dR P op t cx cy x y).run lim s:=by
 show kK x (fun k a=>kK y (fun k' b=>Bool.rec (motive:=fun _=>aH Value) (.fail "binOp") (.ok (f k a b) s) (GQ k k')) (jV P op t cx cy x y lim s)) (jV P op t cx cy x y lim s)=_
 unfold jV
 rw[bZ]
 cases x with
 |int k a=>
  cases y with
  |int k' b=>
   rw[h]
   simp only[kK,GR]
   by_cases hk:k=k'
   ·rw[decide_eq_true hk,if_pos hk]
   ·rw[decide_eq_false hk,if_neg hk]
  | _=>rfl
 | _=>rfl
def Uf (op:BinOp) (t:TypeId) (cx cy:Bool):OX:=
 BinOp.rec (motive:=fun _=>OX)
  (nF P .add t cx cy fun k a b => .int k (Cg k (a+b)))
  (nF P .sub t cx cy fun k a b => .int k (Cg k (a-b)))
  (nF P .mul t cx cy fun k a b => .int k (Cg k (a*b)))
  ⟨jV P .quo t cx cy⟩ ⟨jV P .rem t cx cy⟩ ⟨jV P .and t cx cy⟩ ⟨jV P .or t cx cy⟩ ⟨jV P .xor t cx cy⟩ ⟨jV P .shl t cx cy⟩ ⟨jV P .shr t cx cy⟩ ⟨jV P .andNot t cx cy⟩
  (nF P .eql t cx cy fun k a b => .bool (eqI a b))
  (nF P .neq t cx cy fun k a b => .bool (DR (eqI a b)))
  (nF P .lss t cx cy fun k a b => .bool (RA a b))
  (nF P .leq t cx cy fun k a b => .bool (DR (RA b a)))
  (nF P .gtr t cx cy fun k a b => .bool (RA b a))
  (nF P .geq t cx cy fun k a b => .bool (DR (RA a b))) op
theorem iK {α:Type} {c:Prop} [Decidable c] (p q:AP α) (lim:Nat) (s:HS):(if c then p else q).run lim s=if c then p.run lim s else q.run lim s:=by split<;>rfl
theorem Kw (op:BinOp) (t:TypeId) (cx cy:Bool) (x y:Value) (lim:Nat) (s:HS):(Uf P op t cx cy).fn x y lim s=(dR P op t cx cy x y).run lim s:=by
 have hle:∀ a b:Int,DR (RA b a)=decide (a≤b):=fun a b=>by rw[Ch,Bi,←decide_not];congr 1;simp only[eq_iff_iff];omega
 cases op with
 |quo=>exact bZ _ _ _
 |rem=>exact bZ _ _ _
 |and=>exact bZ _ _ _
 |or=>exact bZ _ _ _
 |xor=>exact bZ _ _ _
 |shl=>exact bZ _ _ _
 |shr=>exact bZ _ _ _
 |andNot=>exact bZ _ _ _
 |add=>exact gA P (fun k k' a b lim s=>by simp only[tD];exact iK _ _ _ _) x y lim s
 |sub=>exact gA P (fun k k' a b lim s=>by simp only[tD];exact iK _ _ _ _) x y lim s
 |mul=>exact gA P (fun k k' a b lim s=>by simp only[tD];exact iK _ _ _ _) x y lim s
 |eql=>exact gA P (fun k k' a b lim s=>by simp only[GU];exact iK _ _ _ _) x y lim s
 |neq=>exact gA P (fun k k' a b lim s=>by simp only[GU,Ch];exact iK _ _ _ _) x y lim s
 |lss=>exact gA P (fun k k' a b lim s=>by simp only[Bi];exact iK _ _ _ _) x y lim s
 |leq=>exact gA P (fun k k' a b lim s=>by simp only[hle];exact iK _ _ _ _) x y lim s
 |gtr=>exact gA P (fun k k' a b lim s=>by simp only[Bi];exact iK _ _ _ _) x y lim s
 |geq=>exact gA P (fun k k' a b lim s=>by simp only[hle];exact iK _ _ _ _) x y lim s
def wI (l:List Value):PT Value→Nat→Option (PT Value):=
 List.rec (motive:=fun _=>PT Value→Nat→Option (PT Value)) (fun c _=>some c) (fun v _ ih c off=>gy off fun off=>Option.rec (motive:=fun _=>Option (PT Value)) none (fun _=>Bool.rec (motive:=fun _=>Option (PT Value)) none (ih ((setB (cF off off)).fn (some v) c) (Nat.succ off)) (bn v)) ((wG (cF off off)).fn c)) l
theorem pT:∀ (l:List Value) (c:PT Value) (off:Nat),wI l c off=bt c off l
 | [],c,off=>rfl
 |v::l,c,off=>by
  show gy off (fun off=>Option.rec (motive:=fun _=>Option (PT Value)) none (fun _=>Bool.rec (motive:=fun _=>Option (PT Value)) none (wI l ((setB (cF off off)).fn (some v) c) (Nat.succ off)) (bn v)) ((wG (cF off off)).fn c))=_
  rw[fR,pT l,kJ,jy,bW]
  conv=>rhs;rw[bt]
  unfold PT.get PT.set
  cases PT.ef (bits off off) c with
  |none=>rfl
  |some _=>simp only;cases bn v<;>rfl
structure StB where
 fn:Value→Value→Nat→HS→aH Value
def OY (t:TypeId):StB:=
 Option.rec (motive:=fun _=>StB) ⟨fun _ _ _ _ => .fail "store"⟩ (fun i=>
  ⟨fun x v lim s=>kL x (fun a=>Bool.rec (motive:=fun _=>aH Value) (.fail "store") (HS.rec (motive:=fun _=>aH Value) (fun h n rd wr=>Option.rec (motive:=fun _=>aH Value) (.fail "get") (fun B=>
   iT B (fun c ro=>Bool.rec (motive:=fun _=>aH Value) (Option.rec (motive:=fun _=>aH Value) (.fail "store") (fun c' => .ok cZ (GM lim a.block (some (.cells c' false)) (Mx lim a.block ⟨h,n,rd,wr⟩))) (wI v.cells.toList c a.off)) (.fail "store") ro) (.fail "store")) (l6 a.block h)) s) (Nat.beq (A_ v.cells.toList) i.size)) (.fail "store")⟩) (P.info? t)
theorem OZ (t:TypeId) (x v:Value) (lim:Nat) (s:HS):(OY P t).fn x v lim s=DP (jX P t x v) lim s:=by
 unfold DP
 rw[bZ,AP.fA]
 unfold OY jX
 cases P.info? t with
 |none=>cases x<;>first |rfl | (rename_i a;cases a<;>rfl)
 |some i=>
  simp only
  cases x with
  |pointer a=>
   cases a with
   |none=>rfl
   |some a=>
    simp only[kL,oO]
    cases Nat.beq v.cells.toList.length i.size with
    |false=>rfl
    |true=>
     obtain⟨h,n,rd,wr⟩:=s
     simp only[cond_true,AP.bind,AP.run,iJ]
     cases hg:h.get a.block with
     |none=>rfl
     |some B=>
      cases B with
      |cells c ro=>
       cases ro with
       |true=>rfl
       |false=>
        simp only[iT,pT]
        cases bt c a.off v.cells.toList with
        |none=>rfl
        |some c'=>
         simp only[AP.bind,AP.run]
         simp only[tC,tB,cX,pS]
         cases Nat.blt a.block lim<;>simp only[cond_true,cond_false,hg]
      | _=>rfl
  | _=>rfl
def exB (i:Nat) (x:Value) (s:HS):aH Value:=match x with
 | .tuple vs=>Option.rec (motive:=fun _=>aH Value) (.fail "extract") (fun v => .ok v s) (qW vs.toList i)
 | _ => .fail "extract"
theorem O4 (i:Nat) (x:Value) (lim:Nat) (s:HS):exB i x s=(gW x i).run lim s:=by
 unfold exB gW
 cases x with
 |tuple vs=>
  simp only[kH]
  cases vs.toList[i]? <;> rfl
 | _=>rfl
structure IxB where
 fn:Value→Value→Nat→HS→aH Value
def GV {β:Type} (v:Value) (f:Addr→Nat→β) (d:β):β:=match v with
 | .slice (some a) n _=>f a n
 | _=>d
def ixB (t:TypeId):IxB:=
 match P.underlying t with
 |some (.slice e)=>Option.rec (motive:=fun _=>IxB) ⟨fun x i lim s=>fT (dI P t x i) lim s⟩ (fun j=>⟨fun x i lim s=>GV x (fun a len=>kK i (fun _ m=>Int.rec (motive:=fun _=>aH Value) (fun n=>Bool.rec (motive:=fun _=>aH Value) (.fail "indexAddr")
   (Addr.rec (motive:=fun _=>aH Value) (fun b o _ => .ok (.pointer (some ⟨b,Nat.add o (Nat.mul n j.size),none⟩)) s) a) (Nat.blt n len)) (fun _ => .fail "indexAddr") m) (.fail "indexAddr")) (.fail "indexAddr")⟩) (P.info? e)
 | _=>⟨fun x i lim s=>fT (dI P t x i) lim s⟩
theorem O5 (t:TypeId) (x i:Value) (lim:Nat) (s:HS):(ixB P t).fn x i lim s=(dI P t x i).run lim s:=by
 unfold ixB
 split
 ·rename_i e he
  cases hi:P.info? e with
  |none=>exact bZ _ _ _
  |some j=>
   unfold dI
   rw[he]
   cases x with
   |slice a len c=>
    cases a with
    |none=>rfl
    |some a=>
     cases i with
     |int k m=>
      cases m with
      |ofNat n=>
       simp only[GV,kK,asNat,hi]
       cases Nat.blt n len<;>rfl
      |negSucc n=>rfl
     | _=>rfl
   | _=>rfl
 ·exact bZ _ _ _
structure GX where
 fn:Over→fU→Nat→Tm→HS→aH Value
def GY (O:Over) (ev:fU) (lim:Nat) (x:aD) (s:HS):aH Value:=GD P O ev lim x s
def wJ (l:List Value):PT Value→Nat→PT Value:=List.rec (motive:=fun _=>PT Value→Nat→PT Value) (fun t _=>t) (fun v _ ih t off=>gy off fun off=>ih ((setB (cF off off)).fn (some v) t) (Nat.succ off)) l
theorem tE:∀ (l:List Value) (t:PT Value) (off:Nat),wJ l t off=PT.ofList t off l
 | [],t,off=>rfl
 |v::l,t,off=>by
  show gy off (fun off=>wJ l ((setB (cF off off)).fn (some v) t) (Nat.succ off))=_
  rw[fR,tE l,jy,bW];rfl
def rC (size:Nat) (x:Value):AP (Nat×List Value):=
 match x with
 | .slice none n _ => .pure (n,[])
 | .slice (some a) n _ => .get a.block fun
  | .cells c _=>match yR c (n*size) a.off with |some l => .pure (n,l) |none => .fail "cells"
  | _ => .fail "cells"
 | .string s => .pure (s.size,s.data.toList.map fun b => .int .u8 b.toNat)
 | _ => .fail "cells"
theorem tF (size:Nat) (x:Value):rC size x=iZ size x:=by
 unfold rC iZ
 simp only[oQ]
 rfl
def wK (i:TypeInfo) (z:Value) (len n:Nat) (old new:List Value):AP Value:=
 cond (Nat.ble (len+n) 1048576&&Nat.ble i.bytes 65536&&Nat.beq (A_ z.cells.toList) i.size&&Nat.beq (A_ old) (len*i.size)&&Nat.beq (A_ new) (n*i.size))
  (.new (.cells (wJ (DJ old new) .leaf 0) false) fun id => .pure (.slice (some ⟨id,0,none⟩) (len+n) (aB+i.size)))
  (.fail "append")
theorem DS (i:TypeInfo) (z:Value) (len n:Nat) (old new:List Value):wK i z len n old new=qc i z len n old new:=by
 unfold wK qc
 simp only[oO,tE,rz]
def nY (i:TypeInfo) (z:Value) (base:Option Addr) (len cap n:Nat) (new:List Value):AP Value:=
 cond (Nat.beq n 0&&Nat.ble len cap&&new.isEmpty) (.pure (.slice base len cap))
 (cond (Nat.ble aB cap)
  (match base with
   |some a=>cond (Nat.beq cap (aB+i.size)&&new.all bn)
    (.get a.block fun
     | .cells c false=>match yR c (len*i.size) a.off with
      |some old => .kill a.block (wK i z len n old new)
      |none => .fail "append"
     | _ => .fail "append") (.fail "append")
   |none => .fail "append")
  (cond (Nat.ble (len+n) cap)
   (match base with
    |some a => .get a.block fun
     | .cells c false=>match wI new c (a.off+len*i.size) with
      |some c' => .set a.block (.cells c' false) (.pure (.slice (some a) (len+n) cap))
      |none => .fail "append"
     | _ => .fail "append"
    |none => .fail "append")
   ((rC i.size (.slice base len cap)).va fun p=>wK i z len n p.2 new)))
theorem uw (i:TypeInfo) (z:Value) (base:Option Addr) (len cap n:Nat) (new:List Value):nY i z base len cap n new=jK i z base len cap n new:=by
 unfold nY jK
 simp only[DS,tF,oQ,pT,AP.fA]
 rfl
structure ApB where
 fn:Value→Value→AP Value
def Kx (t tx:TypeId):ApB:=
 match P.underlying t,P.underlying tx with
 |some (.slice _),some (.int _)=>⟨fun s x=>eO P [t,tx] [s,x]⟩
 |some (.slice e),some _=>Option.rec (motive:=fun _=>ApB) ⟨fun s x=>eO P [t,tx] [s,x]⟩ (fun i=>Option.rec (motive:=fun _=>ApB) ⟨fun s x=>eO P [t,tx] [s,x]⟩ (fun z=>
   ⟨fun s x=>match s with
    | .slice base len cap=>(rC i.size x).va fun p=>nY i z base len cap p.1 p.2
    | _ => .fail "append"⟩) (zeroOf P e)) (P.info? e)
 | _,_=>⟨fun s x=>eO P [t,tx] [s,x]⟩
theorem Ky (t tx:TypeId) (s x:Value):(Kx P t tx).fn s x=eO P [t,tx] [s,x]:=by
 unfold Kx
 split
 ·rfl
 ·rename_i e d hni h1 h2
  cases hi:P.info? e with
  |none=>rfl
  |some i=>
   cases hz:zeroOf P e with
   |none=>rfl
   |some z=>
    simp only[tF,uw,AP.fA]
    unfold eO
    simp only[h1,h2]
    cases s with
    |slice base len cap=>
     cases d with
     |int k=>exact absurd rfl (hni k)
     | _=>simp only[hi,hz]
    | _=>cases d<;>first |exact absurd rfl (hni _) |rfl
 ·rfl
def Ci (c:Call):GX:=
 match c.callee,c.argTypes.toList,c.args.toList with
 | .builtin .append,[t,tx],[a,b]=>⟨fun O ev lim m s=>fT ((Kx P t tx).fn ((jz a).fn m) ((jz b).fn m)) lim s⟩
 | _,_,_=>⟨fun O ev lim m s=>dD (runN (oh P (Cf m) c) lim s) (GY P O ev lim)⟩
theorem GZ (c:Call) (O:Over) (ev:fU) (lim:Nat) (m:Tm) (s:HS):(Ci P c).fn O ev lim m s=dD (runN (oh P (Cf m) c) lim s) (GY P O ev lim):=by
 unfold Ci
 split
 ·rename_i t tx a b h1 h2 h3
  show fT ((Kx P t tx).fn ((jz a).fn m) ((jz b).fn m)) lim s=_
  have:oh P (Cf m) c=(eO P [t,tx] [Cf m a,Cf m b]).bind fun v => .pure (.value v):=by
   unfold oh
   rw[h1,h2,h3]
   rfl
  rw[this,Ky,bI,mU,bZ,fS,eP]
  exact(yQ _).symm
 ·rfl
def l7 (op:Op):GX:=
 Op.rec (motive:=fun _=>GX)
  (fun x=>⟨fun O ev lim m s => .ok ((jz x).fn m) s⟩)
  (fun x=>⟨fun O ev lim m s => .ok ((jz x).fn m) s⟩)
  (fun c a b=>⟨fun O ev lim m s=>match (jz c).fn m with | .bool t => .ok (cond t ((jz a).fn m) ((jz b).fn m)) s | _ => .fail "pick"⟩)
  (fun e=>⟨fun O ev lim m s=>fT (rB P e) lim s⟩)
  (fun _ x=>⟨fun O ev lim m s=>fT (oP ((jz x).fn m).cells.toList) lim s⟩)
  (fun t ps=>⟨fun O ev lim m s=>fT (nI P t (ps.toList.map fun p=>(p.1,Cf m p.2))) lim s⟩)
  (fun t n ps=>⟨fun O ev lim m s=>fT (eu P t n (ps.toList.map fun p=>(p.1,Cf m p.2))) lim s⟩)
  (fun t m' k x=>⟨fun O ev lim m s=>DP (ez P t ((jz m').fn m) ((jz k).fn m) ((jz x).fn m)) lim s⟩)
  (fun t a=>⟨fun O ev lim m s=>(ldB P t).fn ((jz a).fn m) lim s⟩)
  (fun t a x=>⟨fun O ev lim m s=>(OY P t).fn ((jz a).fn m) ((jz x).fn m) lim s⟩)
  (fun _=>⟨fun O ev lim m s => .fail "operation"⟩)
  (fun _=>⟨fun O ev lim m s => .fail "operation"⟩)
  (fun x=>⟨fun O ev lim m s=>fT (iN ((jz x).fn m)) lim s⟩)
  (fun op t x y _=>⟨fun O ev lim m s=>(Uf P op t (isConst x) (isConst y)).fn ((jz x).fn m) ((jz y).fn m) lim s⟩)
  (fun op _ x=>⟨fun O ev lim m s=>fT (.opt "unOp" (lp op ((jz x).fn m)) .pure) lim s⟩)
  (fun sr d x=>⟨fun O ev lim m s=>fT (iW P sr d ((jz x).fn m)) lim s⟩)
  (fun _ _=>⟨fun O ev lim m s => .fail "operation"⟩)
  (fun t x=>⟨fun O ev lim m s=>fT (cR P t ((jz x).fn m)) lim s⟩)
  (fun fn first captured=>⟨fun O ev lim m s=>cond (iD fn) (.ok (.func fn ⟨first.toList.map (Cf m)⟩ ⟨captured.toList.map (Cf m)⟩) s) (.fail "makeFunc")⟩)
  (fun t r=>⟨fun O ev lim m s=>fT (lB P t (r.map (Cf m))) lim s⟩)
  (fun _ _=>⟨fun O ev lim m s => .fail "operation"⟩)
  (fun t l c=>⟨fun O ev lim m s=>fT (fL P t ((jz l).fn m) ((jz c).fn m)) lim s⟩)
  (fun t x lo hi mx=>⟨fun O ev lim m s=>fT (nK P t ((jz x).fn m) (lo.map (Cf m)) (hi.map (Cf m)) (mx.map (Cf m))) lim s⟩)
  (fun t x f=>⟨fun O ev lim m s=>(faB P t f).fn ((jz x).fn m) lim s⟩)
  (fun t x f=>⟨fun O ev lim m s=>fT (nJ P t ((jz x).fn m) f) lim s⟩)
  (fun t x i=>⟨fun O ev lim m s=>(ixB P t).fn ((jz x).fn m) ((jz i).fn m) lim s⟩)
  (fun t x i=>⟨fun O ev lim m s=>fT (lq P t ((jz x).fn m) ((jz i).fn m)) lim s⟩)
  (fun t x i ok=>⟨fun O ev lim m s=>fT (jY P t ((jz x).fn m) ((jz i).fn m) ok) lim s⟩)
  (fun t m' k x=>⟨fun O ev lim m s=>DP (ez P t ((jz m').fn m) ((jz k).fn m) ((jz x).fn m)) lim s⟩)
  (fun _ _ _=>⟨fun O ev lim m s => .fail "operation"⟩)
  (fun _ _ _ _=>⟨fun O ev lim m s => .fail "operation"⟩)
  (fun t x=>⟨fun O ev lim m s=>fT (rI P t ((jz x).fn m)) lim s⟩)
  (fun x b=>⟨fun O ev lim m s=>fT (xq ((jz x).fn m) b) lim s⟩)
  (fun x=>⟨fun O ev lim m s=>fT (rJ ((jz x).fn m)) lim s⟩)
  (fun x _ t ok=>⟨fun O ev lim m s=>fT (gV P ((jz x).fn m) t ok) lim s⟩)
  (fun x i=>⟨fun O ev lim m s=>exB i ((jz x).fn m) s⟩)
  (fun c=>Ci P c)
  (fun _=>⟨fun O ev lim m s => .fail "operation"⟩)
  (fun _=>⟨fun O ev lim m s => .fail "operation"⟩)
  (fun _=>⟨fun O ev lim m s => .fail "operation"⟩)
  (fun _ _=>⟨fun O ev lim m s => .fail "operation"⟩)
  (fun _ _ _=>⟨fun O ev lim m s => .fail "operation"⟩)
  (fun _ _=>⟨fun O ev lim m s => .fail "operation"⟩) op
theorem G0 (O:Over) (ev:fU) (lim:Nat) (m:Tm) (o:Oper) (s:HS):(l7 P o.op).fn O ev lim m s=bH ((jk P m.eval o).run lim s) fun x s=>eC P O ev lim x s:=by
 have hv:=GN P O ev lim
 have hu:=DQ P O ev lim
 have hn:∀ p:AP aD,∀ s,dD (runN p lim s) (GY P O ev lim)=bH (p.run lim s) fun x s=>eC P O ev lim x s:=by
  intro p s
  rw[bI,mU]
  congr 1
  funext x s
  exact yN P O ev lim x s
 unfold jk
 cases h:o.op with
 |pick c a b=>
  simp only[l7,jF]
  cases m.eval c<;>rfl
 |makeFunc fn first captured=>
  simp only[l7,Bh]
  cases iD fn<;>rfl
 |call c=>
  show (Ci P c).fn O ev lim m s=_
  rw[GZ,Bh];exact hn _ s
 |load t a=>simp only[l7,jF,OV];rw[hv,bZ]
 |store t a x=>simp only[l7,jF,OZ];rw[hu]
 |fieldAddr t x f=>simp only[l7,jF,OW];rw[hv,bZ]
 |indexAddr t x i=>simp only[l7,jF,O5];rw[hv,bZ]
 |binOp op t x y _=>simp only[l7,jF,Kw];rw[hv,bZ]
 |extract x i=>simp only[l7,jF];rw[O4 i _ lim s,hv,bZ]
 | _=>first |rfl | (simp only[l7,jF,Bh,tA,nX];first |rfl |exact(hv _ _).symm |exact(hu _ _).symm)
def DT (op:Op):GX:=Bool.rec (motive:=fun _=>GX) ⟨fun _ _ _ _ _ => .fail "an address among the constants"⟩ (l7 P op) (op.operands.toList.all aX)
theorem Kz (O:Over) (ev:fU) (lim:Nat) (m:Tm) (o:Oper) (s:HS):(DT P o.op).fn O ev lim m s=iE P O ev lim m.eval o s:=by
 unfold DT iE
 cases o.op.operands.toList.all aX with
 |false=>rfl
 |true=>exact G0 P O ev lim m o s
structure Ug where
 fn:Value→Tm→HS→aH Tm
def DU (d:Option Nat):Ug:=
 Option.rec (motive:=fun _=>Ug) ⟨fun _ m s => .ok m s⟩ (fun i=>⟨fun v m s=>Tm.rec (motive:=fun _=>aH Tm) (fun n t eS=>Bool.rec (motive:=fun _=>aH Tm) (.fail "slot") (.ok ⟨n,(setB (cF i i)).fn (some v) t,eS⟩ s) (Nat.blt i n)) m⟩) d
theorem Cj (d:Option Nat) (v:Value) (m:Tm) (s:HS):(DU d).fn v m s=iF m d v s:=by
 unfold DU iF Tm.put PT.set
 cases d with
 |none=>rfl
 |some i=>
  cases m with
  |mk n t eS=>
   simp only[jy,bW]
   cases Nat.blt i n<;>rfl
def wL (ops:List Oper) (g:Nat×Bool):Ry Bool:=
 Option.rec (motive:=fun _=>Ry Bool) ⟨fun _=>false⟩ (fun o=>Option.rec (motive:=fun _=>Ry Bool) ⟨fun _=>false⟩ (fun d=>⟨fun m=>match (GL d).fn m with | .bool b=>Bool.rec (motive:=fun _=>Bool) (DR g.2) g.2 b | _=>false⟩) o.dst) (qW ops g.1)
theorem DV (ops:List Oper) (m:Tm) (g:Nat×Bool) (o:Oper) (h:o.guard=some g):(wL ops g).fn m=bJ ops m o:=by
 obtain⟨j,want⟩:=g
 unfold wL bJ fc
 rw[h,kH]
 simp only
 cases ops[j]? with
 |none=>rfl
 |some q=>
  simp only
  cases q.dst with
  |none=>rfl
  |some d=>
   simp only[yP]
   cases m.get d with
   |bool b=>cases b<;>cases want<;>rfl
   | _=>rfl
structure O6 where
 fn:Over→fU→Nat→Tm→HS→aH Tm
def Uh (ops:List Oper) (o:Oper):O6:=
 Oper.rec (motive:=fun _=>O6) (fun dst op _ _ _ guard=>Option.rec (motive:=fun _=>O6)
  ⟨fun O ev lim m s=>dD ((DT P op).fn O ev lim m s) fun v s=>(DU dst).fn v m s⟩
  (fun g=>⟨fun O ev lim m s=>dD (Bool.rec (motive:=fun _=>aH Value) (.ok cZ s) ((DT P op).fn O ev lim m s) ((wL ops g).fn m)) fun v s=>(DU dst).fn v m s⟩) guard) o
theorem G1 (O:Over) (ev:fU) (lim:Nat) (ops:List Oper) (o:Oper) (m:Tm) (s:HS):(Uh P ops o).fn O ev lim m s=kS P O ev lim ops o m s:=by
 have e:=Kz P O ev lim m o s
 obtain⟨dst,op,ty,pos,after,guard⟩:=o
 unfold kS
 simp only at e
 cases guard with
 |none=>
  show dD ((DT P op).fn O ev lim m s) (fun v s=>(DU dst).fn v m s)=_
  simp only[bI,Cj,e]
  rfl
 |some g=>
  show dD (Bool.rec (motive:=fun _=>aH Value) (.ok cZ s) ((DT P op).fn O ev lim m s) ((wL ops g).fn m)) (fun v s=>(DU dst).fn v m s)=_
  simp only[bI,Cj,e,DV ops m g ⟨dst,op,ty,pos,after,some g⟩ rfl]
  cases bJ ops m ⟨dst,op,ty,pos,after,some g⟩<;>rfl
def O7 (ops:List Oper) (l:List Oper):O6:=
 List.rec (motive:=fun _=>O6) ⟨fun _ _ _ m s => .ok m s⟩ (fun o _ ih=>⟨fun O ev lim m s=>dD ((Uh P ops o).fn O ev lim m s) (ih.fn O ev lim)⟩) l
theorem Cm (O:Over) (ev:fU) (lim:Nat) (ops:List Oper):∀ (l:List Oper) (m:Tm) (s:HS),(O7 P ops l).fn O ev lim m s=gX P O ev lim ops l m s
 | [],m,s=>rfl
 |o::l,m,s=>by
  show dD ((Uh P ops o).fn O ev lim m s) ((O7 P ops l).fn O ev lim)=bH (kS P O ev lim ops o m s) fun m s=>gX P O ev lim ops l m s
  rw[bI,G1]
  congr 1
  funext m s
  exact Cm O ev lim ops l m s
structure My where
 fn:Over→fU→Tm→PT ak→Nat→aH (Tm×List bD)
def G2 (ops:List Oper) (l:List Oper):My:=
 List.rec (motive:=fun _=>My) ⟨fun _ _ m h n => .ok (m,[]) ⟨h,n,[],[]⟩⟩
  (fun o _ ih=>⟨fun O ev m h n=>dD ((Uh P ops o).fn O ev n m ⟨h,n,[],[]⟩) fun m s=>HS.rec (motive:=fun _=>aH (Tm×List bD)) (fun h' n' rd wr=>dD (ih.fn O ev m h' n') fun x s'=>Prod.rec (motive:=fun _=>aH (Tm×List bD)) (fun y fs => .ok (y,⟨n,n',rd,wr⟩::fs) s') x) s⟩) l
theorem yS (O:Over) (ev:fU) (ops:List Oper):∀ (l:List Oper) (m:Tm) (h:PT ak) (n:Nat),(G2 P ops l).fn O ev m h n=gY P O ev ops l m h n
 | [],m,h,n=>rfl
 |o::l,m,h,n=>by
  show dD ((Uh P ops o).fn O ev n m ⟨h,n,[],[]⟩) (fun m s=>HS.rec (motive:=fun _=>aH (Tm×List bD)) (fun h' n' rd wr=>dD ((G2 P ops l).fn O ev m h' n') fun x s'=>Prod.rec (motive:=fun _=>aH (Tm×List bD)) (fun y fs => .ok (y,⟨n,n',rd,wr⟩::fs) s') x) s)=bH (kS P O ev n ops o m ⟨h,n,[],[]⟩) fun m s=>bH (gY P O ev ops l m s.heap s.next) fun x s' => .ok (x.1,⟨n,s.next,s.rd,s.wr⟩::x.2) s'
  rw[bI,G1]
  congr 1
  funext m s
  cases s
  simp only[bI,yS O ev ops l]
def G3 (ops:List Oper):O6:=
 Option.rec (motive:=fun _=>O6) ⟨fun _ _ _ _ _ => .fail "operations whose order is open share a slot"⟩
  (fun L=>⟨fun O ev lim m s=>HS.rec (motive:=fun _=>aH Tm) (fun h n rd wr=>dD ((G2 P ops ops).fn O ev m h n) fun x s'=>Prod.rec (motive:=fun _=>aH Tm) (fun y fs=>
   Bool.rec (motive:=fun _=>aH Tm) (.fail "operations whose order is open touch one block")
    (HS.rec (motive:=fun _=>aH Tm) (fun h' n' _ _ => .ok y (Bool.rec (motive:=fun _=>HS) (A8 lim h' n' fs rd wr) ⟨h',n',rd,wr⟩ (Nat.beq lim 0))) s')
    (wA fs L)) x) s⟩)
  (Km ops)
theorem G4 (O:Over) (ev:fU) (lim:Nat) (ops:List Oper) (m:Tm) (s:HS):(G3 P ops).fn O ev lim m s=eD P O ev lim ops m s:=by
 unfold G3 eD
 rw[Cc]
 cases fO ops (aL (aO [] ops) ops.length) with
 |false=>rfl
 |true=>
  obtain⟨h,n,rd,wr⟩:=s
  simp only[cond_true,bI,yS]
  congr 1
  funext x s'
  obtain⟨y,fs⟩:=x
  simp only[pQ]
  cases cG fs (aL (aO [] ops) ops.length) with
  |false=>rfl
  |true=>
   cases s'
   simp only[cond_true,pR]
   cases Nat.beq lim 0<;>rfl
structure Cn where
 fn:Over→fU→Option Nat→Nat→Tm→HS→aH (aV×Tm)
def oR (c:Code):Cn:=
 Code.rec (motive:=fun _=>Cn)
  ⟨fun _ _ _ _ m s => .ok (.normal,m) s⟩
  (fun _ ops draw=>Bool.rec (motive:=fun _=>Cn) ⟨fun O ev ro lim m s=>dD ((O7 P ops.toList ops.toList).fn O ev lim m s) fun m s => .ok (.normal,m) s⟩ ⟨fun O ev ro lim m s=>dD ((G3 P ops.toList).fn O ev lim m s) fun m s => .ok (.normal,m) s⟩ draw)
  (fun a b _ _=>⟨fun O ev ro lim m s=>dD (ev ro lim a m s) fun x s=>Prod.rec (motive:=fun _=>aH (aV×Tm)) (fun e m=>aV.rec (motive:=fun _=>aH (aV×Tm)) (ev ro lim b m s) (fun i => .ok (.exit i,m) s) (.ok (.ret,m) s) e) x⟩)
  (fun c a b _ _=>Bool.rec (motive:=fun _=>Cn) ⟨fun _ _ _ _ _ _ => .fail "cond"⟩ ⟨fun O ev ro lim m s=>match (jz c).fn m with
   | .bool t=>Bool.rec (motive:=fun _=>aH (aV×Tm)) (ev ro lim b m s) (ev ro lim a m s) t
   | _ => .fail "cond"⟩ (aX c))
  (fun id c _=>⟨fun O ev ro lim m s=>dD (ev ro lim c m s) fun x s=>Prod.rec (motive:=fun _=>aH (aV×Tm)) (fun e m=>aV.rec (motive:=fun _=>aH (aV×Tm)) (.ok (.normal,m) s) (fun i => .ok (cond (Nat.beq i id) .normal (.exit i),m) s) (.ok (.ret,m) s) e) x⟩)
  (fun c _=>⟨fun O ev ro lim m s=>dD (ev ro lim c m s) fun x s=>Prod.rec (motive:=fun _=>aH (aV×Tm)) (fun e m=>aV.rec (motive:=fun _=>aH (aV×Tm)) (ev ro lim (.loop c) m s) (fun i => .ok (.exit i,m) s) (.ok (.ret,m) s) e) x⟩)
  (fun g ps assign body _ _=>⟨fun O ev ro lim m s=>eE P O ev ro lim g ps.toList assign body m s⟩)
  (fun id=>⟨fun _ _ _ _ m s => .ok (.exit id,m) s⟩)
  (fun c _=>⟨fun O ev ro lim m s=>ev ro lim c m s⟩)
  (fun _=>⟨fun _ _ _ _ m s => .ok (.normal,m) s⟩)
  (fun _=>⟨fun _ _ _ _ m s => .fail "code"⟩)
  ⟨fun _ _ _ _ m s => .ok (.ret,m) s⟩
  (fun _=>⟨fun _ _ _ _ m s => .fail "code"⟩) c
theorem G5 (O:Over) (ev:fU) (ro:Option Nat) (lim:Nat) (c:Code) (m:Tm) (s:HS):(oR P c).fn O ev ro lim m s=aY P O ev ro lim c m s:=by
 cases c with
 |region i ops draw=>
  cases draw with
  |true=>simp only[oR,aY,bI,G4];rfl
  |false=>simp only[oR,aY,bI,Cm];rfl
 |seq a b=>
  simp only[oR,aY,bI]
  congr 1;funext x s;obtain⟨e,m⟩:=x;cases e<;>rfl
 |block i c=>
  simp only[oR,aY,bI]
  congr 1;funext x s;obtain⟨e,m⟩:=x;cases e<;>rfl
 |loop c=>
  simp only[oR,aY,bI]
  congr 1;funext x s;obtain⟨e,m⟩:=x;cases e<;>rfl
 |cond c a b=>
  simp only[oR,aY]
  cases aX c with
  |false=>rfl
  |true=>
   simp only[cond_true,jF]
   cases m.eval c with
   |bool t=>cases t<;>rfl
   | _=>rfl
 | _=>rfl
variable (O:Over)
def O8 (n:Nat):fU:=Nat.rec (motive:=fun _=>fU) (fun _ _ _ _ _ => .fail "fuel") (fun _ ev ro lim c m s=>(oR P c).fn O ev ro lim m s) n
theorem Co:∀ n,O8 P O n=jW P O n
 |0=>rfl
 |n+1=>by
  show (fun ro lim c m s=>(oR P c).fn O (O8 P O n) ro lim m s)=aY P O (jW P O n)
  rw[Co n]
  funext ro lim c m s
  exact G5 P O _ ro lim c m s
def G6 (fuel:Nat) (f:FuncId):Bool:=isTrue (yL P O (O8 P O fuel) 0 f [] oo)
theorem KA (fuel:Nat) (f:FuncId):G6 P O fuel f=GK P O fuel f:=by
 unfold G6 GK
 rw[Co,Bf]
theorem G9 {P:Program} {O:Over} {fuel:Nat} {f:FuncId} (h:G6 P O fuel f=true):GK P O fuel f=true:=by rw[←KA];exact h
end
end Go.Am
