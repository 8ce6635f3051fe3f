/-
A part.
-/
import Derived.Test.YtofmbmclopgldaaGreatAmY4
import Derived.RowKit3
import Derived.SizedLaws
import Derived.Below
import Derived.WalkKit
import Derived.ProofKit
import Derived.OpenShut
set_option linter.all false
set_option maxRecDepth 100000
namespace Go.Am
open Go.RowKit
structure View where
 b:Nat
 s:Nat
 L:List Value
def iN(vs:List View):bL:=⟨fun i=>(vs[i]?).map fun v=>(v.b,v.s),fun _=>none⟩
def oY:List View→PT aj:=fun vs=>PT.ofList .leaf 0 (vs.map fun v => .cells (PT.ofList .leaf 0 v.L) true)
theorem jB(vs:List View)(i:Nat):(oY vs).get i=(vs[i]?).map fun v => .cells (PT.ofList .leaf 0 v.L) true:=by
 unfold oY;rw[PT.aQ,List.getElem?_map]
theorem DY(vs:List View):bQ (oY vs) vs.length:=by
 intro i hi;rw[jB,List.getElem?_eq_none hi];rfl
def rq(vs:List View)(w:World):Prop:=∀ (k:Nat) (v:View),vs[k]? = some v→∃ cs el fz,w.heap[v.b]? = some (.cells cs el fz)∧∀ (i:Nat) (x:Value),v.L[i]? = some x→∃ x',cs[v.s+i]? = some x'∧aD (iN vs) x x'
section
variable {H:Type} {enc:TypeId×Value→H} {P:Program} {w:World} {base:Nat} {spare:Nat→Bool} {held:Bool}
theorem mapM_some{α β:Type}{f:α→Option β}:∀ {l:List α} {ys:List β},l.mapM f=some ys→∀ a∈l,∃ y,f a=some y
 | [],ys,h,a,ha=>by simp at ha
 |x::l,ys,h,a,ha=>by
  rw[List.mapM_cons] at h;cases hx:f x with
  |none=>rw[hx] at h;simp at h
  |some y=>
   rw[hx] at h;cases hl:l.mapM f with
   |none=>rw[hl] at h;simp at h
   |some zs=>
    rcases List.mem_cons.1 ha with rfl |ha
    ·exact⟨y,hx⟩
    ·exact mapM_some hl a ha
theorem trod_int{fuel:Nat}{t:TypeId}{k:IntKind}{cs:List Value}{x:DataW H×List MemPlace}(ht:P.underlying t=some (.int k))(h:DataW.trod enc P w base spare held fuel t cs=some x):∃ n,cs=[.int k n]∧(Lit.int k n).wf=true:=by
 cases fuel with
 |zero=>simp[DataW.trod] at h
 |succ fuel=>
  rcases cs with _ | ⟨c,_ | ⟨c2,r⟩⟩
  ·simp[DataW.trod,ht] at h
  ·cases c<;>simp[DataW.trod,ht] at h;obtain⟨⟨rfl,h1⟩,_⟩:=h;exact⟨_,rfl,h1⟩
  ·simp[DataW.trod,ht] at h
theorem trod_struct{fuel:Nat}{t:TypeId}{fs:Array Field}{cs:List Value}{x:DataW H×List MemPlace}(ht:P.underlying t=some (.struct fs))(h:DataW.trod enc P w base spare held fuel t cs=some x):
  cs.length=P.cellsOf t∧∃ fuel',∀ f∈fs.toList,∃ y,DataW.trod enc P w base spare held fuel' f.type ((cs.drop f.offset).take (P.cellsOf f.type))=some y:=by
 cases fuel with
 |zero=>simp[DataW.trod] at h
 |succ fuel=>
  unfold DataW.trod at h;rw[ht] at h;simp only at h;split at h
  ·rename_i hl;refine⟨hl,fuel,?_⟩;cases hm:fs.toList.mapM fun f=>DataW.trod enc P w base spare held fuel f.type ((cs.drop f.offset).take (P.cellsOf f.type)) with
   |none=>rw[hm] at h;simp at h
   |some ys=>exact mapM_some hm
  ·simp at h
theorem trod_array{fuel:Nat}{t e:TypeId}{n:Nat}{cs:List Value}{x:DataW H×List MemPlace}(ht:P.underlying t=some (.array n e))(h:DataW.trod enc P w base spare held fuel t cs=some x):
  cs.length=P.cellsOf t∧∃ fuel',∀ i,i<n→∃ y,DataW.trod enc P w base spare held fuel' e ((cs.drop (i*P.cellsOf e)).take (P.cellsOf e))=some y:=by
 cases fuel with
 |zero=>simp[DataW.trod] at h
 |succ fuel=>
  unfold DataW.trod at h;rw[ht] at h;simp only at h;split at h
  ·rename_i hl;refine⟨hl,fuel,fun i hi=>?_⟩;cases hm:(List.range n).mapM fun i=>DataW.trod enc P w base spare held fuel e ((cs.drop (i*P.cellsOf e)).take (P.cellsOf e)) with
   |none=>rw[hm] at h;simp at h
   |some ys=>exact mapM_some hm i (by simpa using hi)
  ·simp at h
end
end Go.Am
namespace Go.Am
open Go.RowKit
theorem GX{P:Program}{O:Over}(hO:cU P O)(qw:P.follows .mixedOrders=true){f:FuncId}{args args':List Value}{vs:List View}{w:World}(hv:rq vs w)(ha:aM (iN vs) args args')
  (H:cE P O f args (oY vs) vs.length fun v _ _=>v = .bool true):Calls P f ⟨args'⟩ w fun e w'=>e = .returned (.bool true)∧Bx w w'∧Below w.heap.size w w':=by
 have hS:bK (iN vs) w (oY vs) w:=by
  refine⟨.refl _ _,fun _ _=>rfl,?_,?_,?_,?_,?_,?_⟩
  ·intro i B hi;rw[jB] at hi;cases hk:vs[i]? with
   |none=>rw[hk] at hi;simp at hi
   |some v=>
    rw[hk] at hi;obtain rfl:=Option.some.inj hi;obtain⟨cs,el,fz,h1,h2⟩:=hv i v hk;refine⟨v.b,v.s,by simp[iN,hk],⟨cs,el,fz,h1,fun h=>by simp at h,fun j x hx=>?_⟩,fun h=>by simp[aj.cV] at h⟩;rw[PT.aQ] at hx;exact h2 j x hx
  ·intro i j B B' b s b' s' hij hi _ _ _ hw;rw[jB] at hi;cases hk:vs[i]? with
   |none=>rw[hk] at hi;simp at hi
   |some v=>rw[hk] at hi;obtain rfl:=Option.some.inj hi;simp[aj.cV] at hw
  ·intro i b s e;cases hk:vs[i]? with
   |none=>simp[iN,hk] at e
   |some v=>
    simp[iN,hk] at e;obtain⟨cs,el,fz,h1,_⟩:=hv i v hk;rw[←e.1];exact dZ h1
  ·intro b n e;simp[iN] at e
  ·exact⟨vs.length,fun i hi=>by simp[iN,List.getElem?_eq_none hi]⟩
  ·intro i c ro hi;rw[jB] at hi;cases hk:vs[i]? with
   |none=>rw[hk] at hi;simp at hi
   |some v=>rw[hk] at hi;have:=aj.cells.inj (Option.some.inj hi);exact⟨v.L,this.1.symm⟩
 obtain⟨k,v,h',n',e,rfl⟩:=H;have Fu:Wf (S0 (oY vs) vs.length):=by
  intro i hi;exact DY vs i hi
 have:=qX (sH hO qw k).1 (tU k) e (Nat.zero_le _) Fu hS (fun i b hb=>hb) ha (fun i hi _=>by simp[iN,List.getElem?_eq_none (show vs.length≤i from hi)]) none;have:=callsIn_wide.1 (show CallsIn Fence.wide 0 P f ⟨args'⟩ w _ from this);refine Calls.mono this ?_;rintro e w' ⟨aY,v',H',rfl,hex,Kr⟩;cases Kr;have hb:=hex.rel.below;refine⟨rfl,⟨⟨hb.os,hb.output,fun i hi=>?_⟩,hex.rel.fz,hb.size⟩,hb⟩;rw[hb.block i hi];cases hw:w.heap[i]? with
 |none=>simp[hw]
 |some o=>cases o<;>simp[hw]
section
variable {H:Type} {enc:TypeId×Value→H} {P:Program} {w:World} {base:Nat} {spare:Nat→Bool} {held:Bool}
theorem Ir{α β:Type}{f:α→Option β}{l:List α}{ys:List β}(h:l.mapM f=some ys){j:Nat}{a:α}(ha:l[j]? = some a):∃ y,ys[j]? = some y∧f a=some y:=by
 have h1:=mapM_some_get h j a ha;have h2:=mapM_some_length h;have h3:j<ys.length:=by
  rw[h2];exact(List.getElem?_eq_some_iff.1 ha).1
 exact⟨ys[j],List.getElem?_eq_getElem h3,by rw[h1,List.getElem?_eq_getElem h3]⟩
theorem oZ{fuel:Nat}{t:TypeId}{fs:Array Field}{cs:List Value}{x:DataW H×List MemPlace}(ht:P.underlying t=some (.struct fs))(h:DataW.trod enc P w base spare held fuel t cs=some x):
  cs.length=P.cellsOf t∧∃ fuel' parts,x.1 = .agg parts∧∀ (j:Nat) (f:Field),fs.toList[j]? = some f→∃ y,parts[j]? = some y.1∧DataW.trod enc P w base spare held fuel' f.type ((cs.drop f.offset).take (P.cellsOf f.type))=some y:=by
 cases fuel with
 |zero=>simp[DataW.trod] at h
 |succ fuel=>
  unfold DataW.trod at h;rw[ht] at h;simp only at h;split at h
  ·rename_i hl;cases hm:fs.toList.mapM fun f=>DataW.trod enc P w base spare held fuel f.type ((cs.drop f.offset).take (P.cellsOf f.type)) with
   |none=>rw[hm] at h;simp at h
   |some ys=>
    rw[hm] at h;simp only[Option.map_some,Option.some.injEq] at h;refine⟨hl,fuel,ys.map (·.1),by rw[←h],fun j f hf=>?_⟩;obtain⟨y,h1,h2⟩:=Ir hm hf;exact⟨y,by simp[h1],h2⟩
  ·simp at h
theorem o7{t:TypeId}{fs:Array Field}{parts:List (DataW H)}{j:Nat}{f:Field}{d:DataW H}(ht:P.underlying t=some (.struct fs))(hf:fs.toList[j]? = some f)(hd:parts[j]? = some d):∀ n∈d.weights P f.type,n∈(DataW.agg parts).weights P t:=by
 intro n hn;simp only[DataW.weights,ht];exact DataW.weights_mem_each (j:=j) (by simp[hf]) hd n hn
theorem qI{fuel:Nat}{t e:TypeId}{cs:List Value}{x:DataW H×List MemPlace}(ht:P.underlying t=some (.slice e))(h:DataW.trod enc P w base (fun _=>true) held fuel t cs=some x):
  cs=[.slice none 0 0]∨∃ a len cap elems rest,cs=[.slice (some a) len cap]∧x.1 = .slice elems rest∧elems.length+rest.length=cap∧len≤cap∧∃ fuel',∀ i,i<len→∃ l y,w.cells? base (a.add (i*P.cellsOf e)) (P.cellsOf e)=some l∧elems[i]? = some y.1∧DataW.trod enc P w base (fun _=>true) held fuel' e l=some y:=by
 cases fuel with
 |zero=>simp[DataW.trod] at h
 |succ fuel=>
  rcases cs with _ | ⟨c,_ | ⟨c2,r⟩⟩
  ·simp[DataW.trod,ht] at h
  ·cases c with
   |slice a len cap=>
    cases a with
    |none=>
     left;unfold DataW.trod at h;rw[ht] at h;split at h<;>simp_all
    |some a=>
     right;unfold DataW.trod at h;rw[ht] at h;simp only at h;split at h
     ·rename_i hc;cases hm:(List.range len).mapM fun i=>(w.cells? base (a.add (i*P.cellsOf e)) (P.cellsOf e)).bind (DataW.trod enc P w base (fun _=>true) held fuel e) with
      |none=>rw[hm] at h;simp at h
      |some ys=>
       rw[hm] at h;simp only[Option.bind_some,if_true] at h;cases hr:(List.range (cap-len)).mapM fun j=>(w.cells? base (a.add ((len+j)*P.cellsOf e)) (P.cellsOf e)).bind (DataW.trod enc P w base (fun _=>true) held fuel e) with
       |none=>rw[hr] at h;simp at h
       |some zs=>
        rw[hr] at h;simp only[Option.map_some,Option.some.injEq] at h;have e1:=mapM_some_length hm;have e2:=mapM_some_length hr;simp only[List.length_range] at e1 e2;refine⟨a,len,cap,ys.map (·.1),zs.map (·.1),rfl,by rw[←h],?_,hc.2.1,fuel,fun i hi=>?_⟩
        ·have:=hc.2.1;simp only[List.length_map];omega
        ·obtain⟨y,h1,h2⟩:=Ir hm (j:=i) (a:=i) (by simp[hi]);cases hl:w.cells? base (a.add (i*P.cellsOf e)) (P.cellsOf e) with
         |none=>rw[hl] at h2;simp at h2
         |some l=>rw[hl] at h2;exact⟨l,y,rfl,by simp[h1],h2⟩
     ·simp at h
   | _=>simp[DataW.trod,ht] at h
  ·simp[DataW.trod,ht] at h
theorem BM{α:Type}{p:Nat→α→Prop}:∀ (n:Nat),(∀ i,i<n→∃ a,p i a)→∃ xs:List α,xs.length=n∧∀ i a,xs[i]? = some a→p i a
 |0,_=>⟨[],rfl,fun i a h=>by simp at h⟩
 |n+1,h=>by
  obtain⟨xs,h1,h2⟩:=BM n fun i hi=>h i qJ;obtain⟨a,ha⟩:=h n qJ;refine⟨xs++[a],by simp[h1],fun i b hb=>?_⟩;by_cases hi:i<n
  ·rw[List.getElem?_append_left qJ] at hb;exact h2 i b hb
  ·rw[List.getElem?_append_right qJ] at hb;have:i=n:=by
    rcases Nat.lt_or_ge (i-xs.length) 1 with h |h
    ·omega
    ·rw[List.getElem?_eq_none (by simpa using h)] at hb;simp at hb
   subst this;simp[h1] at hb;subst hb;exact ha
theorem cells?_one{a:Addr}{l:List Value}(h:w.cells? base a 1=some l):∃ c,l=[c]∧w.cell? (a.add 0)=some c:=by
 unfold World.cells? at h;split at h
 ·simp only[List.range_succ,List.range_zero,List.nil_append,List.mapM_cons,List.mapM_nil] at h;cases hc:w.cell? (a.add 0) with
  |none=>rw[hc] at h;simp at h
  |some c=>rw[hc] at h;simp at h;exact⟨c,h.symm,rfl⟩
 ·simp at h
theorem open_ints{fuel:Nat}{t e:TypeId}{k:IntKind}{cs:List Value}{x:DataW H×List MemPlace}{base':Nat}(ht:P.underlying t=some (.slice e))(he:P.underlying e=some (.int k))(h1:P.cellsOf e=1)(hb:0<P.bytesOf e)
  (h:DataW.trod enc P w base (fun _=>true) held fuel t cs=some x) (hok:∀ v,cs[0]? = some v→Cell.okWide P w .any base' t v) (hz:∀ n∈x.1.weights P t,n≤reachBytes):
  ∃ (vs:List View) (sl s':Value) (xs:List Int),cs=[s']∧rq vs w∧aD (iN vs) sl s'∧aN k (oY vs) sl xs∧xs.length≤reachBytes∧(∀ n∈xs,(Lit.int k n).wf=true)∧∀ a n c,sl = .slice a n c→n≤c∧c<aA:=by
 rcases qI ht h with rfl | ⟨a,len,cap,elems,rest,rfl,hx,hcap,hle,fuel',hel⟩
 ·exact⟨[],.slice none 0 0,_,[],rfl,fun k v h=>by simp at h,.nilslice 0 0,.inl ⟨rfl,rfl⟩,by simp,by simp,fun a n c e=>by cases e;exact⟨Nat.le_refl _,by decide⟩⟩
 ·have hok:=hok _ rfl;unfold Cell.okWide at hok;rw[ht] at hok;simp only[Cell.ok,ht] at hok;obtain⟨-,-,-,Aj,row,cells,nu,-⟩:=hok;have GY:∃ c el fz,w.heap[a.block]? = some (.cells c el fz):=by
   unfold World.shape? at nu;split at nu
   ·exact⟨_,_,_,by assumption⟩
   ·simp at nu
  obtain⟨c,el,fz,hc⟩:=GY;obtain⟨xs,RS,hxs⟩:∃ xs:List Int,xs.length=len∧∀ (i:Nat) n,xs[i]? = some n→c[a.off+i]? = some (.int k n)∧(Lit.int k n).wf=true:=by
   refine BM len fun i hi=>?_;obtain⟨l,y,hl,-,hy⟩:=hel i hi;rw[h1,Nat.mul_one] at hl;obtain⟨v,rfl,hv⟩:=cells?_one hl;obtain⟨n,hn,hw⟩:=trod_int he hy;simp only[List.cons.injEq,and_true] at hn;subst hn;refine⟨n,?_,hw⟩;unfold World.cell? at hv;have e0:(a.add i).add 0=⟨a.block,a.off+i,none⟩:=by
    unfold Addr.add;by_cases JL:i=0
    ·subst JL;simp only[if_true];rw[←Aj];rfl
    ·simp only[if_true,if_neg JL]
   rw[e0] at hv;simp only[hc] at hv
   simpa using hv
  have hsz:cap*P.bytesOf e≤reachBytes:=by
   refine hz _ ?_;rw[hx];simp only[DataW.weights,ht];rw[hcap];exact List.mem_cons_self
  have ad8:cap≤reachBytes:=Nat.le_trans (Nat.le_mul_of_pos_right _ hb) hsz;have hlt: ¬ aA≤cap:=by
   have:reachBytes<aA:=by decide
   omega
  subst RS;refine⟨[⟨a.block,a.off,xs.map (.int k)⟩],.slice (some ⟨0,0,none⟩) xs.length cap,_,xs,rfl,?_,?_,?_,by omega,?_,fun a n c e=>by cases e;exact⟨hle,by omega⟩⟩
  ·intro j v hj
   match j,hj with
   |0,hj=>
    simp only[List.getElem?_cons_zero,Option.some.injEq] at hj;subst hj;refine⟨c,el,fz,hc,fun i x hx=>?_⟩;simp only[List.getElem?_map] at hx;cases hi:xs[i]? with
    |none=>rw[hi] at hx;simp at hx
    |some n=>
     rw[hi] at hx;obtain rfl:=Option.some.inj hx;exact⟨_,(hxs i n hi).1,.int k n⟩
   |j+1,hj=>simp at hj
  ·refine .slice _ _ _ _ _ (.inl ⟨rfl,Aj,a.off,rfl,rfl⟩) ?_;unfold bL.cap;rw[if_neg hlt]
  ·refine .inr ⟨0,0,none,cap,xs.map (.int k),true,rfl,by rw[jB];rfl,?_,?_⟩
   ·simp
   ·rw[List.drop_zero,←List.length_map (f:=Value.int k),List.take_length]
  ·intro n hn;obtain⟨i,hi⟩:=List.getElem?_of_mem hn;exact(hxs i n hi).2
end
end Go.Am
namespace Go.Am
open Go.RowKit
end Go.Am
namespace Go.Am
open Go.ChangeShapes Go.WideShapes Go.ChangeAt Go.RowKit
inductive Ck where
 |int (k:IntKind)
 |bool
def Ck.mk:Ck→Int→Value
 | .int k,n => .int k n
 | .bool,n => .bool (decide (n≠0))
def Ck.wf:Ck→Int→Prop
 | .int k,n=>(Lit.int k n).wf=true
 | .bool,n=>n=0∨n=1
def vW:List Ck→List Int→List Value
 |k::ks,n::ns=>k.mk n::vW ks ns
 | _,_=>[]
def WI:List Ck→List Int→Prop
 |k::ks,n::ns=>k.wf n∧WI ks ns
 | _,_=>True
theorem ru:∀ {k1:List Ck} {n1:List Int} {k2:List Ck} {n2:List Int},n1.length=k1.length→vW (k1++k2) (n1++n2)=vW k1 n1++vW k2 n2
 | [],[],_,_,_=>rfl
 |k::ks,n::ns,k2,n2,h=>by simp only[List.cons_append,vW,ru (show ns.length=ks.length by simpa using h)]
theorem ry:∀ {k1:List Ck} {n1:List Int} {k2:List Ck} {n2:List Int},n1.length=k1.length→WI k1 n1→WI k2 n2→WI (k1++k2) (n1++n2)
 | [],[],_,_,_,_,w=>w
 |k::ks,n::ns,k2,n2,h,w1,w2=>⟨w1.1,ry (show ns.length=ks.length by simpa using h) w1.2 w2⟩
theorem nK:∀ {ks:List Ck} {ns:List Int},ns.length=ks.length→(vW ks ns).length=ks.length
 | [],[],_=>rfl
 |k::ks,n::ns,h=>by simp only[vW,List.length_cons,nK (show ns.length=ks.length by simpa using h)]
theorem Iu{Γ:bL}:∀ (ks:List Ck) (ns:List Int),aM Γ (vW ks ns) (vW ks ns)
 | [],[] => .nil
 | [],_::_ => .nil
 | _::_,[] => .nil
 |k::ks,n::ns => .cons _ _ _ _ (by cases k;exact .int _ _;exact .bool _) (Iu ks ns)
theorem Iv{Γ:bL}:∀ {ks:List Ck} {ns:List Int} {x:Value},x∈vW ks ns→aD Γ x x
 |k::ks,n::ns,x,h=>by
  simp only[vW,List.mem_cons] at h
  rcases h with rfl |h
  ·cases k;exact .int _ _;exact .bool _
  ·exact Iv h
 | [],[],x,h=>by simp[vW] at h
 | [],_::_,x,h=>by simp[vW] at h
 | _::_,[],x,h=>by simp[vW] at h
mutual
def o8(P:Program):Nat→TypeId→Option (List Ck)
 |0,_=>none
 |f+1,t=>match P.underlying t with
  |some (.int k)=>some [.int k]
  |some .bool=>some [.bool]
  |some (.struct fs)=>match Ak P f fs.toList 0 with
   |some ks=>cond (Nat.beq ks.length (P.cellsOf t)) (some ks) none
   |none=>none
  |some (.array n e)=>match o8 P f e with
   |some ks=>cond (Nat.beq ks.length (P.cellsOf e)&&Nat.beq (n*ks.length) (P.cellsOf t)) (some (List.replicate n ks).flatten) none
   |none=>none
  | _=>none
def Ak(P:Program):Nat→List Field→Nat→Option (List Ck)
 |0,_,_=>none
 | _+1,[],_=>some []
 |f+1,fd::r,off=>cond (Nat.beq fd.offset off) (match o8 P f fd.type with
  |some ks=>cond (Nat.beq ks.length (P.cellsOf fd.type)) (match Ak P f r (off+ks.length) with
   |some ks2=>some (ks++ks2)
   |none=>none) none
  |none=>none) none
end
section
variable {H:Type} {enc:TypeId×Value→H} {P:Program} {w:World} {base:Nat} {spare:Nat→Bool} {held:Bool}
theorem trod_bool{fuel:Nat}{t:TypeId}{cs:List Value}{x:DataW H×List MemPlace}(ht:P.underlying t=some .bool)(h:DataW.trod enc P w base spare held fuel t cs=some x):∃ b,cs=[.bool b]:=by
 cases fuel with
 |zero=>simp[DataW.trod] at h
 |succ fuel=>
  rcases cs with _ | ⟨c,_ | ⟨c2,r⟩⟩
  ·simp[DataW.trod,ht] at h
  ·cases c<;>simp[DataW.trod,ht] at h;exact⟨_,rfl⟩
  ·simp[DataW.trod,ht] at h
def Flat(ks:List Ck)(cs:List Value):Prop:=∃ ns,cs=vW ks ns∧ns.length=ks.length∧WI ks ns
theorem Al{k:Nat}{ks:List Ck}:∀ (n:Nat) {cs:List Value},cs.length=n*k→ks.length=k→(∀ i,i<n→Flat ks ((cs.drop (i*k)).take k))→Flat (List.replicate n ks).flatten cs
 |0,cs,hl,hk,h=>by
  have:cs=[]:=List.eq_nil_of_length_eq_zero qJ;subst this;exact⟨[],rfl,rfl,trivial⟩
 |n+1,cs,hl,hk,h=>by
  obtain⟨n1,e1,l1,w1⟩:=h 0 qJ;rw[Nat.zero_mul,List.drop_zero] at e1;have hl':(cs.drop k).length=n*k:=by rw[List.length_drop,hl,Nat.succ_mul];omega
  obtain⟨n2,e2,l2,w2⟩:=Al n hl' hk fun i hi=>by
   have:=h (i+1) qJ;rw[List.drop_drop];rw[Nat.succ_mul] at this;rw[Nat.add_comm k];exact this
  rw[List.replicate_succ,List.flatten_cons];refine⟨n1++n2,?_,by rw[List.length_append,List.length_append,l1,l2],ry l1 w1 w2⟩;rw[ru l1,←e1,←e2,List.take_append_drop]
mutual
theorem qh:∀ (f:Nat) (t:TypeId) (ks:List Ck),o8 P f t=some ks→∀ (fuel:Nat) (cs:List Value) (x:DataW H×List MemPlace),DataW.trod enc P w base spare held fuel t cs=some x→Flat ks cs
 |0,t,ks,h,_,_,_,_=>by simp[o8] at h
 |f+1,t,ks,h,fuel,cs,x,hx=>by
  rw[o8] at h;split at h
  ·rename_i k ht;obtain rfl:=Option.some.inj h;obtain⟨n,rfl,hw⟩:=trod_int ht hx;exact⟨[n],rfl,rfl,hw,trivial⟩
  ·rename_i ht;obtain rfl:=Option.some.inj h;obtain⟨b,rfl⟩:=trod_bool ht hx;cases b
   ·exact⟨[0],rfl,rfl,.inl rfl,trivial⟩
   ·exact⟨[1],rfl,rfl,.inr rfl,trivial⟩
  ·rename_i fs ht;split at h
   ·rename_i ks' hf;cases hb:Nat.beq ks'.length (P.cellsOf t) with
    |false=>rw[hb] at h;simp at h
    |true=>
     rw[hb] at h;obtain rfl:=Option.some.inj h;have hl:=Nat.eq_of_beq_eq_true hb;obtain⟨LM,fuel',ha⟩:=trod_struct ht hx;obtain⟨ns,e,l,wf⟩:=xQ f fs.toList 0 ks' hf fuel' cs ha;rw[List.drop_zero,List.take_of_length_le qJ] at e;exact⟨ns,e,l,wf⟩
   ·simp at h
  ·rename_i n e ht;split at h
   ·rename_i ks' hf;cases hb:(Nat.beq ks'.length (P.cellsOf e)&&Nat.beq (n*ks'.length) (P.cellsOf t)) with
    |false=>rw[hb] at h;simp at h
    |true=>
     rw[hb] at h;obtain rfl:=Option.some.inj h;rw[Bool.and_eq_true] at hb;have hl:=Nat.eq_of_beq_eq_true hb.1;have zo:=Nat.eq_of_beq_eq_true hb.2;obtain⟨LM,fuel',ha⟩:=trod_array ht hx;refine Al (k:=P.cellsOf e) n (by rw[LM,←zo,hl]) hl fun i hi=>?_;obtain⟨y,hy⟩:=ha i hi;exact qh f e ks' hf fuel' _ y hy
   ·simp at h
  ·simp at h
theorem xQ:∀ (f:Nat) (r:List Field) (off:Nat) (ks:List Ck),Ak P f r off=some ks→∀ (fuel:Nat) (cs:List Value),(∀ fd∈r,∃ y,DataW.trod enc P w base spare held fuel fd.type ((cs.drop fd.offset).take (P.cellsOf fd.type))=some y)→Flat ks ((cs.drop off).take ks.length)
 |0,r,off,ks,h,_,_,_=>by simp[Ak] at h
 |f+1,[],off,ks,h,fuel,cs,ha=>by
  rw[Ak] at h;obtain rfl:=Option.some.inj h;exact⟨[],by simp[vW],rfl,trivial⟩
 |f+1,fd::r,off,ks,h,fuel,cs,ha=>by
  rw[Ak] at h;cases hb:Nat.beq fd.offset off with
  |false=>rw[hb] at h;simp at h
  |true=>
   rw[hb] at h;simp only[cond_true] at h;have ho:=Nat.eq_of_beq_eq_true hb;split at h
   ·rename_i k1 h1;cases mT:Nat.beq k1.length (P.cellsOf fd.type) with
    |false=>rw[mT] at h;simp at h
    |true=>
     rw[mT] at h;simp only[cond_true] at h;have hl:=Nat.eq_of_beq_eq_true mT;split at h
     ·rename_i k2 h2;obtain rfl:=Option.some.inj h;obtain⟨y,hy⟩:=ha fd (by simp);obtain⟨n1,e1,l1,w1⟩:=qh f fd.type k1 h1 fuel _ y hy;obtain⟨n2,e2,l2,w2⟩:=xQ f r (off+k1.length) k2 h2 fuel cs fun fd' hfd=>ha fd' (by simp[hfd]);rw[ho,←hl] at e1;refine⟨n1++n2,?_,by rw[List.length_append,List.length_append,l1,l2],ry l1 w1 w2⟩;rw[ru l1,←e1,←e2,List.length_append,List.take_add,List.drop_drop]
     ·simp at h
   ·simp at h
end
theorem KI{f:Nat}{t:TypeId}{ks:List Ck}{v:Value}{d:DataW H}{p:List MemPlace}(hf:o8 P f t=some ks)(h:DataW.Trod enc P w base spare held t v d p):Flat ks v.cells.toList:=by
 obtain⟨fuel,h⟩:=h;exact qh f t ks hf fuel _ _ h
theorem Om{base':Nat}{f:Nat}{t:TypeId}{ks:List Ck}{u:TypeDesc}{v:Value}{d:DataW H}{p:List MemPlace}(ht:P.underlying t=some u)(hu:isAgg u=true)(hf:o8 P f t=some ks)(hok:Value.okWide P w .any base' t v)(h:DataW.Trod enc P w base spare held t v d p):∃ ns,v = .agg ⟨vW ks ns⟩∧ns.length=ks.length∧WI ks ns:=by
 have hfl:=KI hf h;unfold Value.okWide at hok;rw[ht] at hok;have hv:∃ cs,v = .agg cs:=by
  cases u<;>first | (obtain⟨cs,e,_⟩:=hok;exact⟨cs,e⟩)|simp[isAgg] at hu
 obtain⟨⟨cs⟩,rfl⟩:=hv;obtain⟨ns,e,l,wf⟩:=hfl;simp only[Value.cells] at e;exact⟨ns,by rw[e],l,wf⟩
theorem sL(v0 v1:List View):(iN v0).le (iN (v0++v1)):=by
 refine⟨fun i x h=>?_,fun b n h=>by simp[iN] at h⟩;simp only[iN] at h ⊢;cases hi:v0[i]? with
 |none=>rw[hi] at h;simp at h
 |some v=>
  rw[hi] at h;rw[List.getElem?_append_left (List.getElem?_eq_some_iff.1 hi).1,hi];exact h
theorem rz(v0 v1:List View):Kept (oY v0) (oY (v0++v1)):=by
 intro i B h;rw[jB] at h ⊢;cases hi:v0[i]? with
 |none=>rw[hi] at h;simp at h
 |some v=>
  rw[hi] at h;rw[List.getElem?_append_left (List.getElem?_eq_some_iff.1 hi).1,hi];exact h
theorem DZ{v0:List View}{v:View}{w:World}(h0:rq v0 w)(h1:∃ cs el fz,w.heap[v.b]? = some (.cells cs el fz)∧∀ (i:Nat) (x:Value),v.L[i]? = some x→∃ x',cs[v.s+i]? = some x'∧aD (iN (v0++[v])) x x'):rq (v0++[v]) w:=by
 intro k u hk
 rcases Nat.lt_trichotomy k v0.length with q |q |q
 ·rw[List.getElem?_append_left q] at hk;obtain⟨cs,el,fz,e1,e2⟩:=h0 k u hk;exact⟨cs,el,fz,e1,fun i x hx=>by obtain⟨x',a,b⟩:=e2 i x hx;exact⟨x',a,b.mono (sL v0 [v])⟩⟩
 ·subst q;rw[List.getElem?_append_right (Nat.le_refl _),Nat.sub_self] at hk;simp only[List.getElem?_cons_zero,Option.some.injEq] at hk;subst hk;exact h1
 ·rw[List.getElem?_eq_none (by simp;omega)] at hk;simp at hk
theorem KJ{n:Nat}{a:Addr}{l:List Value}(h:w.cells? base a n=some l){i:Nat}{c:Value}(hc:l[i]? = some c):w.cell? (a.add i)=some c:=by
 unfold World.cells? at h;split at h
 ·have hl:=mapM_some_length h;have hi:i<n:=by have:=(List.getElem?_eq_some_iff.1 hc).1;rw[hl,List.length_range] at this;exact this
  have:=mapM_some_get h i i (by simp[hi]);rw[←hc];exact this
 ·simp at h
def gj(ks:List Ck)(A:List (List Int)):List Value:=A.flatMap (vW ks)
def kO(ks:List Ck)(A:List (List Int)):Prop:=∀ x∈A,x.length=ks.length∧WI ks x
theorem kO.tail{ks:List Ck}{x:List Int}{A:List (List Int)}(h:kO ks (x::A)):kO ks A:=fun y hy=>h y (by simp[hy])
theorem sM{ks:List Ck}:∀ {A:List (List Int)},kO ks A→(gj ks A).length=A.length*ks.length
 | [],_=>by simp[gj]
 |x::A,h=>by
  have:=sM h.tail;unfold gj at*;rw[List.flatMap_cons,List.length_append,this,nK (h x (by simp)).1,List.length_cons,Nat.succ_mul];omega
theorem xT{ks:List Ck}:∀ {A:List (List Int)} (i:Nat),kO ks A→(gj ks A).drop (i*ks.length)=gj ks (A.drop i)
 |A,0,_=>by simp
 | [],i+1,_=>by simp[gj]
 |x::A,i+1,h=>by
  have e:(gj ks (x::A))=vW ks x++gj ks A:=by simp[gj]
  have hl:=nK (h x (by simp)).1;rw[e,List.drop_succ_cons,←xT i h.tail,Nat.succ_mul,Nat.add_comm,←List.drop_drop,←hl,List.drop_left]
theorem jC{ks:List Ck}{A:List (List Int)}(h:kO ks A){i:Nat}{x:List Int}(hx:A[i]? = some x)(j:Nat)(hj:j<ks.length):(gj ks A)[i*ks.length+j]? = (vW ks x)[j]? := by
 have hi:=(List.getElem?_eq_some_iff.1 hx).1;have hx':=(List.getElem?_eq_some_iff.1 hx).2;rw[←List.getElem?_drop,xT i h,List.drop_eq_getElem_cons hi,hx'];unfold gj;rw[List.flatMap_cons,List.getElem?_append_left (by rw[nK (h x (List.mem_of_getElem? hx)).1];exact hj)]
theorem Oo{ks:List Ck}(hk:0<ks.length){A:List (List Int)}(h:kO ks A){i:Nat}{x:Value}(hx:(gj ks A)[i]? = some x):∃ y,A[i/ks.length]? = some y∧(vW ks y)[i%ks.length]? = some x:=by
 have hi:=(List.getElem?_eq_some_iff.1 hx).1;rw[sM h] at hi;have hq:i/ks.length<A.length:=Nat.div_lt_of_lt_mul (by rw[Nat.mul_comm];exact hi);refine⟨A[i/ks.length],List.getElem?_eq_getElem hq,?_⟩;have hm:=Nat.mod_lt i hk;rw[←jC h (List.getElem?_eq_getElem hq) _ hm,Nat.mul_comm,Nat.div_add_mod];exact hx
def o9(ks:List Ck)(h:PT aj)(q:Nat)(s:Value)(A:List (List Int)):Prop:=
 kO ks A∧((s = .slice none 0 0∧A=[])∨∃ cap,s = .slice (some ⟨q,0,none⟩) A.length cap∧A.length≤cap∧cap<4611686018427387904∧h.get q=some (.cells (PT.ofList .leaf 0 (gj ks A)) true))
theorem o9.keep{ks:List Ck}{h h':PT aj}{q:Nat}{s:Value}{A:List (List Int)}(H:o9 ks h q s A)(k:Kept h h'):o9 ks h' q s A:=by
 obtain⟨h1,h2⟩:=H;refine⟨h1,?_⟩
 rcases h2 with e | ⟨cap,e1,e2,e3,e4⟩
 ·exact .inl e
 ·exact .inr ⟨cap,e1,e2,e3,k _ _ e4⟩
theorem An{f:Nat}{t e:TypeId}{ks:List Ck}(ht:P.underlying t=some (.slice e))(hf:o8 P f e=some ks)(hk:ks.length=P.cellsOf e)(RT:0<ks.length)(hb:0<P.bytesOf e)
  {v:Value} {d:DataW H} {p:List MemPlace} {base':Nat} {v0:List View} (hv0:rq v0 w) (hok:Value.okWide P w .any base' t v) (h:DataW.Trod enc P w base (fun _=>true) held t v d p) (hz:∀ n∈d.weights P t,n≤reachBytes):
  ∃ (v1:List View) (sl:Value) (A:List (List Int)),rq (v0++v1) w∧aD (iN (v0++v1)) sl v∧A.length≤reachBytes∧o9 ks (oY (v0++v1)) v0.length sl A:=by
 unfold Value.okWide at hok;rw[ht] at hok;simp only at hok;obtain⟨fuel,h⟩:=h;have hv:∃ a len cap,v = .slice a len cap:=by
  unfold Cell.okWide at hok;rw[ht] at hok;cases v<;>first|exact⟨_,_,_,rfl⟩ | (simp[Cell.ok,ht] at hok;done)
 obtain⟨a0,len,cap,rfl⟩:=hv
 rcases qI ht h with e' | ⟨a,len',cap',elems,rest,e',hx,hcap,hle,fuel',hel⟩
 ·simp only[Value.cells,List.cons.injEq,and_true] at e';cases e';exact⟨[],.slice none 0 0,[],by rw[List.append_nil];exact hv0,.nilslice 0 0,by simp,fun x hx=>by simp at hx,.inl ⟨rfl,rfl⟩⟩
 ·simp only[Value.cells,List.cons.injEq,and_true] at e';cases e';unfold Cell.okWide at hok;rw[ht] at hok;simp only[Cell.ok,ht] at hok;obtain⟨-,-,-,Aj,row,cells,nu,-⟩:=hok;have GY:∃ c el fz,w.heap[a.block]? = some (.cells c el fz):=by
   unfold World.shape? at nu;split at nu
   ·exact⟨_,_,_,by assumption⟩
   ·simp at nu
  obtain⟨c,el,fz,hc⟩:=GY;obtain⟨A,hAl,hAs⟩:∃ A:List (List Int),A.length=len∧∀ (i:Nat) x,A[i]? = some x→(∀ (j:Nat) u,(vW ks x)[j]? = some u→c[a.off+(i*ks.length+j)]? = some u)∧x.length=ks.length∧WI ks x:=by
   refine BM len fun i hi=>?_;obtain⟨l,y,hl,-,hy⟩:=hel i hi;obtain⟨x,rfl,RS,hxw⟩:=qh f e ks hf fuel' l y hy;refine⟨x,fun j u hu=>?_,RS,hxw⟩;have hv:=KJ hl hu;unfold World.cell? at hv;rw[←hk] at hv;have e0:(a.add (i*ks.length)).add j=⟨a.block,a.off+(i*ks.length+j),none⟩:=by
    obtain⟨ab,ao,asp⟩:=a;simp only at Aj;subst Aj;unfold Addr.add;by_cases JL:i*ks.length=0
    ·by_cases hj0:j=0
     ·simp[JL,hj0]
     ·simp[JL,hj0]
    ·by_cases hj0:j=0
     ·simp[JL,hj0]
     ·simp[JL,hj0,Nat.add_assoc]
   rw[e0] at hv;simp only[hc] at hv
   simpa using hv
  have hsz:cap*P.bytesOf e≤reachBytes:=by
   refine hz _ ?_;simp only at hx;rw[hx];simp only[DataW.weights,ht];rw[hcap];exact List.mem_cons_self
  have ad8:cap≤reachBytes:=Nat.le_trans (Nat.le_mul_of_pos_right _ hb) hsz;have hlt: ¬ aA≤cap:=by
   have:reachBytes<aA:=by decide
   omega
  subst hAl;have hA:kO ks A:=fun x hx=>by
   obtain⟨i,hi⟩:=List.getElem?_of_mem hx;exact(hAs i x hi).2
  have XS:∀ i x,(gj ks A)[i]? = some x→c[a.off+i]? = some x∧aD (iN (v0++[⟨a.block,a.off,gj ks A⟩])) x x:=by
   intro i x hx;obtain⟨y,h1,h2⟩:=Oo RT hA hx;have h3:=(hAs _ _ h1).1 _ _ h2;rw[Nat.mul_comm,Nat.div_add_mod] at h3;exact⟨h3,Iv (List.mem_of_getElem? h2)⟩
  refine⟨[⟨a.block,a.off,gj ks A⟩],.slice (some ⟨v0.length,0,none⟩) A.length cap,A,DZ hv0 ⟨c,el,fz,hc,fun i x hx=>⟨x,XS i x hx⟩⟩,?_,by omega,hA,.inr ⟨cap,rfl,by omega,by unfold aA at hlt;omega,?_⟩⟩
  ·refine .slice _ _ _ _ _ (.inl ⟨rfl,Aj,a.off,?_,rfl⟩) ?_
   ·simp[iN]
   ·unfold bL.cap;rw[if_neg hlt]
  ·rw[jB,List.getElem?_append_right (Nat.le_refl _),Nat.sub_self];rfl
end
theorem D1{x:Int}(h:(Lit.int .u8 x).wf=true):0≤x∧x<256:=by
 simp only[Lit.wf,Bool.and_eq_true,decide_eq_true_eq] at h;have e1:IntKind.u8.min=0:=rfl;have e2:IntKind.u8.max=255:=rfl;omega
theorem mI{x:Int}(h:(Lit.int .u64 x).wf=true):0≤x∧x<18446744073709551616:=by
 simp only[Lit.wf,Bool.and_eq_true,decide_eq_true_eq] at h;have e1:IntKind.u64.min=0:=rfl;have e2:IntKind.u64.max=18446744073709551615:=rfl;omega
theorem Ao{x:Int}(h:(Lit.int .i64 x).wf=true) : -9223372036854775808≤x∧x≤9223372036854775807:=by
 simp only[Lit.wf,Bool.and_eq_true,decide_eq_true_eq] at h;have e1:IntKind.i64.min = -9223372036854775808:=rfl;have e2:IntKind.i64.max=9223372036854775807:=rfl;omega
end Go.Am
