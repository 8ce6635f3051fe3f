/-
  A part of the proof: contracts of inner functions.
-/
import Derived.Test.YtfhmopghjoeamaaGreatAmY4
import Derived.RowKit3
import Derived.SizedLaws
import Derived.Below
import Derived.WalkKit
import Derived.ProofKit
import Derived.OpenShut
set_option linter.unusedSimpArgs false
set_option linter.unusedVariables false
namespace Go.Am
open Go.RowKit
structure View where
 b:Nat
 s:Nat
 L:List Value
def eA (vs:List View):aV:=⟨fun i=>(vs[i]?).map fun v=>(v.b,v.s),fun _=>none⟩
def j8:List View→PT aj:=fun vs=>PT.ofList .leaf 0 (vs.map fun v => .cells (PT.ofList .leaf 0 v.L) true)
theorem fq (vs:List View) (i:Nat):(j8 vs).get i=(vs[i]?).map fun v => .cells (PT.ofList .leaf 0 v.L) true:=by
 unfold j8;rw[PT.aF,List.getElem?_map]
theorem vo (vs:List View):bX (j8 vs) vs.length:=by
 intro i hi
 rw[fq,List.getElem?_eq_none hi];rfl
def lN (vs:List View) (w:World):Prop:=∀ (k:Nat) (v:View),vs[k]? = some v→∃ cs el fz,w.heap[v.b]? = some (.cells cs el fz)∧∀ (i:Nat) (x:Value),v.L[i]? = some x→∃ x',cs[v.s+i]? = some x'∧ay (eA vs) x x'
section
variable {H:Type} {enc:TypeId×Value→H} {P:Program} {w:World} {base:Nat} {spare:Nat→Bool} {held:Bool}
theorem mapM_some {α β:Type} {f:α→Option β}:∀ {l:List α} {ys:List β},l.mapM f=some ys→∀ a∈l,∃ y,f a=some y
 | [],ys,h,a,ha=>by simp at ha
 |x::l,ys,h,a,ha=>by
  rw[List.mapM_cons] at h
  cases hx:f x with
  |none=>rw[hx] at h;simp at h
  |some y=>
   rw[hx] at h
   cases hl:l.mapM f with
   |none=>rw[hl] at h;simp at h
   |some zs=>
    rcases List.mem_cons.1 ha with rfl |ha
    ·exact⟨y,hx⟩
    ·exact mapM_some hl a ha
theorem trod_int {fuel:Nat} {t:TypeId} {k:IntKind} {cs:List Value} {x:DataW H×List MemPlace} (ht:P.underlying t=some (.int k)) (h:DataW.trod enc P w base spare held fuel t cs=some x):∃ n,cs=[.int k n]∧(Lit.int k n).wf=true:=by
 cases fuel with
 |zero=>simp[DataW.trod] at h
 |succ fuel=>
  rcases cs with _ | ⟨c,_ | ⟨c2,r⟩⟩
  ·simp[DataW.trod,ht] at h
  ·cases c<;>simp[DataW.trod,ht] at h
   obtain⟨⟨rfl,h1⟩,_⟩:=h
   exact⟨_,rfl,h1⟩
  ·simp[DataW.trod,ht] at h
theorem trod_struct {fuel:Nat} {t:TypeId} {fs:Array Field} {cs:List Value} {x:DataW H×List MemPlace} (ht:P.underlying t=some (.struct fs)) (h:DataW.trod enc P w base spare held fuel t cs=some x):
  cs.length=P.cellsOf t∧∃ fuel',∀ f∈fs.toList,∃ y,DataW.trod enc P w base spare held fuel' f.type ((cs.drop f.offset).take (P.cellsOf f.type))=some y:=by
 cases fuel with
 |zero=>simp[DataW.trod] at h
 |succ fuel=>
  unfold DataW.trod at h
  rw[ht] at h
  simp only at h
  split at h
  ·rename_i hl
   refine⟨hl,fuel,?_⟩
   cases hm:fs.toList.mapM fun f=>DataW.trod enc P w base spare held fuel f.type ((cs.drop f.offset).take (P.cellsOf f.type)) with
   |none=>rw[hm] at h;simp at h
   |some ys=>exact mapM_some hm
  ·simp at h
theorem trod_array {fuel:Nat} {t e:TypeId} {n:Nat} {cs:List Value} {x:DataW H×List MemPlace} (ht:P.underlying t=some (.array n e)) (h:DataW.trod enc P w base spare held fuel t cs=some x):
  cs.length=P.cellsOf t∧∃ fuel',∀ i,i<n→∃ y,DataW.trod enc P w base spare held fuel' e ((cs.drop (i*P.cellsOf e)).take (P.cellsOf e))=some y:=by
 cases fuel with
 |zero=>simp[DataW.trod] at h
 |succ fuel=>
  unfold DataW.trod at h
  rw[ht] at h
  simp only at h
  split at h
  ·rename_i hl
   refine⟨hl,fuel,fun i hi=>?_⟩
   cases hm:(List.range n).mapM fun i=>DataW.trod enc P w base spare held fuel e ((cs.drop (i*P.cellsOf e)).take (P.cellsOf e)) with
   |none=>rw[hm] at h;simp at h
   |some ys=>exact mapM_some hm i (by simpa using hi)
  ·simp at h
end
end Go.Am
set_option linter.unusedSimpArgs false
set_option linter.unusedVariables false
namespace Go.Am
open Go.RowKit
theorem xY {P:Program} {O:Over} (hO:cr P O) (kY:P.follows .mixedOrders=true) {f:FuncId} {args args':List Value} {vs:List View} {w:World} (hv:lN vs w) (ha:aD (eA vs) args args')
  (H:cT P O f args (j8 vs) vs.length fun v _ _=>v = .bool true):Calls P f ⟨args'⟩ w fun e w'=>e = .returned (.bool true)∧tE w w'∧Below w.heap.size w w':=by
 have hS:aR (eA vs) w (j8 vs) w:=by
  refine⟨.refl _ _,fun _ _=>rfl,?_,?_,?_,?_,?_,?_⟩
  ·intro i B hi
   rw[fq] at hi
   cases hk:vs[i]? with
   |none=>rw[hk] at hi;simp at hi
   |some v=>
    rw[hk] at hi
    obtain rfl:=Option.some.inj hi
    obtain⟨cs,el,fz,h1,h2⟩:=hv i v hk
    refine⟨v.b,v.s,by simp[eA,hk],⟨cs,el,fz,h1,fun h=>by simp at h,fun j x hx=>?_⟩,fun h=>by simp[aj.bO] at h⟩
    rw[PT.aF] at hx
    exact h2 j x hx
  ·intro i j B B' b s b' s' hij hi _ _ _ hw
   rw[fq] at hi
   cases hk:vs[i]? with
   |none=>rw[hk] at hi;simp at hi
   |some v=>rw[hk] at hi;obtain rfl:=Option.some.inj hi;simp[aj.bO] at hw
  ·intro i b s e
   cases hk:vs[i]? with
   |none=>simp[eA,hk] at e
   |some v=>
    simp[eA,hk] at e
    obtain⟨cs,el,fz,h1,_⟩:=hv i v hk
    rw[←e.1]
    exact cm h1
  ·intro b n e;simp[eA] at e
  ·exact⟨vs.length,fun i hi=>by simp[eA,List.getElem?_eq_none hi]⟩
  ·intro i c ro hi
   rw[fq] at hi
   cases hk:vs[i]? with
   |none=>rw[hk] at hi;simp at hi
   |some v=>rw[hk] at hi;have:=aj.cells.inj (Option.some.inj hi);exact⟨v.L,this.1.symm⟩
 obtain⟨k,v,h',n',e,rfl⟩:=H
 have Ue:Wf (S0 (j8 vs) vs.length):=by
  intro i hi
  exact vo vs i hi
 have:=lG (mJ hO kY k).1 (nI k) e (Nat.zero_le _) Ue hS (fun i b hb=>hb) ha (fun i hi _=>by simp[eA,List.getElem?_eq_none (show vs.length≤i from hi)]) none
 have:=callsIn_wide.1 (show CallsIn Fence.wide 0 P f ⟨args'⟩ w _ from this)
 refine Calls.mono this ?_
 rintro e w' ⟨aI,v',H',rfl,hex,I_⟩
 cases I_
 have hb:=hex.rel.below
 refine⟨rfl,⟨⟨hb.os,hb.output,fun i hi=>?_⟩,hex.rel.fz,hb.size⟩,hb⟩
 rw[hb.block i hi]
 cases hw:w.heap[i]? with
 |none=>simp[hw]
 |some o=>cases o<;>simp[hw]
section
variable {H:Type} {enc:TypeId×Value→H} {P:Program} {w:World} {base:Nat} {spare:Nat→Bool} {held:Bool}
theorem yV {α β:Type} {f:α→Option β} {l:List α} {ys:List β} (h:l.mapM f=some ys) {j:Nat} {a:α} (ha:l[j]? = some a):∃ y,ys[j]? = some y∧f a=some y:=by
 have h1:=mapM_some_get h j a ha
 have h2:=mapM_some_length h
 have h3:j<ys.length:=by
  rw[h2]
  exact(List.getElem?_eq_some_iff.1 ha).1
 exact⟨ys[j],List.getElem?_eq_getElem h3,by rw[h1,List.getElem?_eq_getElem h3]⟩
theorem j9 {fuel:Nat} {t:TypeId} {fs:Array Field} {cs:List Value} {x:DataW H×List MemPlace} (ht:P.underlying t=some (.struct fs)) (h:DataW.trod enc P w base spare held fuel t cs=some x):
  cs.length=P.cellsOf t∧∃ fuel' parts,x.1 = .agg parts∧∀ (j:Nat) (f:Field),fs.toList[j]? = some f→∃ y,parts[j]? = some y.1∧DataW.trod enc P w base spare held fuel' f.type ((cs.drop f.offset).take (P.cellsOf f.type))=some y:=by
 cases fuel with
 |zero=>simp[DataW.trod] at h
 |succ fuel=>
  unfold DataW.trod at h
  rw[ht] at h
  simp only at h
  split at h
  ·rename_i hl
   cases hm:fs.toList.mapM fun f=>DataW.trod enc P w base spare held fuel f.type ((cs.drop f.offset).take (P.cellsOf f.type)) with
   |none=>rw[hm] at h;simp at h
   |some ys=>
    rw[hm] at h
    simp only[Option.map_some,Option.some.injEq] at h
    refine⟨hl,fuel,ys.map (·.1),by rw[←h],fun j f hf=>?_⟩
    obtain⟨y,h1,h2⟩:=yV hm hf
    exact⟨y,by simp[h1],h2⟩
  ·simp at h
theorem j_ {t:TypeId} {fs:Array Field} {parts:List (DataW H)} {j:Nat} {f:Field} {d:DataW H} (ht:P.underlying t=some (.struct fs)) (hf:fs.toList[j]? = some f) (hd:parts[j]? = some d):∀ n∈d.weights P f.type,n∈(DataW.agg parts).weights P t:=by
 intro n hn
 simp only[DataW.weights,ht]
 exact DataW.weights_mem_each (j:=j) (by simp[hf]) hd n hn
theorem lu {fuel:Nat} {t e:TypeId} {cs:List Value} {x:DataW H×List MemPlace} (ht:P.underlying t=some (.slice e)) (h:DataW.trod enc P w base (fun _=>true) held fuel t cs=some x):
  cs=[.slice none 0 0]∨∃ a len cap elems rest,cs=[.slice (some a) len cap]∧x.1 = .slice elems rest∧elems.length+rest.length=cap∧len≤cap∧∃ fuel',∀ i,i<len→∃ l y,w.cells? base (a.add (i*P.cellsOf e)) (P.cellsOf e)=some l∧elems[i]? = some y.1∧DataW.trod enc P w base (fun _=>true) held fuel' e l=some y:=by
 cases fuel with
 |zero=>simp[DataW.trod] at h
 |succ fuel=>
  rcases cs with _ | ⟨c,_ | ⟨c2,r⟩⟩
  ·simp[DataW.trod,ht] at h
  ·cases c with
   |slice a len cap=>
    cases a with
    |none=>
     left
     unfold DataW.trod at h
     rw[ht] at h
     split at h<;>simp_all
    |some a=>
     right
     unfold DataW.trod at h
     rw[ht] at h
     simp only at h
     split at h
     ·rename_i hc
      cases hm:(List.range len).mapM fun i=>(w.cells? base (a.add (i*P.cellsOf e)) (P.cellsOf e)).bind (DataW.trod enc P w base (fun _=>true) held fuel e) with
      |none=>rw[hm] at h;simp at h
      |some ys=>
       rw[hm] at h
       simp only[Option.bind_some,if_true] at h
       cases hr:(List.range (cap-len)).mapM fun j=>(w.cells? base (a.add ((len+j)*P.cellsOf e)) (P.cellsOf e)).bind (DataW.trod enc P w base (fun _=>true) held fuel e) with
       |none=>rw[hr] at h;simp at h
       |some zs=>
        rw[hr] at h
        simp only[Option.map_some,Option.some.injEq] at h
        have e1:=mapM_some_length hm
        have e2:=mapM_some_length hr
        simp only[List.length_range] at e1 e2
        refine⟨a,len,cap,ys.map (·.1),zs.map (·.1),rfl,by rw[←h],?_,hc.2.1,fuel,fun i hi=>?_⟩
        ·have:=hc.2.1
         simp only[List.length_map];omega
        ·obtain⟨y,h1,h2⟩:=yV hm (j:=i) (a:=i) (by simp[hi])
         cases hl:w.cells? base (a.add (i*P.cellsOf e)) (P.cellsOf e) with
         |none=>rw[hl] at h2;simp at h2
         |some l=>rw[hl] at h2;exact⟨l,y,rfl,by simp[h1],h2⟩
     ·simp at h
   | _=>simp[DataW.trod,ht] at h
  ·simp[DataW.trod,ht] at h
theorem tR {α:Type} {p:Nat→α→Prop}:∀ (n:Nat),(∀ i,i<n→∃ a,p i a)→∃ xs:List α,xs.length=n∧∀ i a,xs[i]? = some a→p i a
 |0,_=>⟨[],rfl,fun i a h=>by simp at h⟩
 |n+1,h=>by
  obtain⟨xs,h1,h2⟩:=tR n fun i hi=>h i (by omega)
  obtain⟨a,ha⟩:=h n (by omega)
  refine⟨xs++[a],by simp[h1],fun i b hb=>?_⟩
  by_cases hi:i<n
  ·rw[List.getElem?_append_left (by omega)] at hb;exact h2 i b hb
  ·rw[List.getElem?_append_right (by omega)] at hb
   have:i=n:=by
    rcases Nat.lt_or_ge (i-xs.length) 1 with h |h
    ·omega
    ·rw[List.getElem?_eq_none (by simpa using h)] at hb;simp at hb
   subst this
   simp[h1] at hb
   subst hb;exact ha
theorem cells?_one {a:Addr} {l:List Value} (h:w.cells? base a 1=some l):∃ c,l=[c]∧w.cell? (a.add 0)=some c:=by
 unfold World.cells? at h
 split at h
 ·simp only[List.range_succ,List.range_zero,List.nil_append,List.mapM_cons,List.mapM_nil] at h
  cases hc:w.cell? (a.add 0) with
  |none=>rw[hc] at h;simp at h
  |some c=>rw[hc] at h;simp at h;exact⟨c,h.symm,rfl⟩
 ·simp at h
theorem open_ints {fuel:Nat} {t e:TypeId} {k:IntKind} {cs:List Value} {x:DataW H×List MemPlace} {base':Nat} (ht:P.underlying t=some (.slice e)) (he:P.underlying e=some (.int k)) (h1:P.cellsOf e=1) (hb:0<P.bytesOf e)
  (h:DataW.trod enc P w base (fun _=>true) held fuel t cs=some x) (hok:∀ v,cs[0]? = some v→Cell.okWide P w .any base' t v) (hz:∀ n∈x.1.weights P t,n≤reachBytes):
  ∃ (vs:List View) (sl s':Value) (xs:List Int),cs=[s']∧lN vs w∧ay (eA vs) sl s'∧aS k (j8 vs) sl xs∧xs.length≤reachBytes∧(∀ n∈xs,(Lit.int k n).wf=true)∧∀ a n c,sl = .slice a n c→n≤c∧c<aA:=by
 rcases lu ht h with rfl | ⟨a,len,cap,elems,rest,rfl,hx,hcap,hle,fuel',hel⟩
 ·exact⟨[],.slice none 0 0,_,[],rfl,fun k v h=>by simp at h,.nilslice 0 0,.inl ⟨rfl,rfl⟩,by simp,by simp,fun a n c e=>by cases e;exact⟨Nat.le_refl _,by decide⟩⟩
 ·have hok:=hok _ rfl
  unfold Cell.okWide at hok
  rw[ht] at hok
  simp only[Cell.ok,ht] at hok
  obtain⟨-,-,-,sj,row,cells,jk,-⟩:=hok
  have xZ:∃ c el fz,w.heap[a.block]? = some (.cells c el fz):=by
   unfold World.shape? at jk
   split at jk
   ·exact⟨_,_,_,by assumption⟩
   ·simp at jk
  obtain⟨c,el,fz,hc⟩:=xZ
  obtain⟨xs,LW,hxs⟩:∃ xs:List Int,xs.length=len∧∀ (i:Nat) n,xs[i]? = some n→c[a.off+i]? = some (.int k n)∧(Lit.int k n).wf=true:=by
   refine tR len fun i hi=>?_
   obtain⟨l,y,hl,-,hy⟩:=hel i hi
   rw[h1,Nat.mul_one] at hl
   obtain⟨v,rfl,hv⟩:=cells?_one hl
   obtain⟨n,hn,hw⟩:=trod_int he hy
   simp only[List.cons.injEq,and_true] at hn
   subst hn
   refine⟨n,?_,hw⟩
   unfold World.cell? at hv
   have e0:(a.add i).add 0=⟨a.block,a.off+i,none⟩:=by
    unfold Addr.add
    by_cases zq:i=0
    ·subst zq;simp only[if_true];rw[←sj];rfl
    ·simp only[if_true,if_neg zq]
   rw[e0] at hv
   simp only[hc] at hv
   simpa using hv
  have hsz:cap*P.bytesOf e≤reachBytes:=by
   refine hz _ ?_
   rw[hx]
   simp only[DataW.weights,ht]
   rw[hcap]
   exact List.mem_cons_self
  have Oe:cap≤reachBytes:=Nat.le_trans (Nat.le_mul_of_pos_right _ hb) hsz
  have hlt: ¬ aA≤cap:=by
   have:reachBytes<aA:=by decide
   omega
  subst LW
  refine⟨[⟨a.block,a.off,xs.map (.int k)⟩],.slice (some ⟨0,0,none⟩) xs.length cap,_,xs,rfl,?_,?_,?_,by omega,?_,fun a n c e=>by cases e;exact⟨hle,by omega⟩⟩
  ·intro j v hj
   match j,hj with
   |0,hj=>
    simp only[List.getElem?_cons_zero,Option.some.injEq] at hj
    subst hj
    refine⟨c,el,fz,hc,fun i x hx=>?_⟩
    simp only[List.getElem?_map] at hx
    cases hi:xs[i]? with
    |none=>rw[hi] at hx;simp at hx
    |some n=>
     rw[hi] at hx
     obtain rfl:=Option.some.inj hx
     exact⟨_,(hxs i n hi).1,.int k n⟩
   |j+1,hj=>simp at hj
  ·refine .slice _ _ _ _ _ (.inl ⟨rfl,sj,a.off,rfl,rfl⟩) ?_
   unfold aV.cap
   rw[if_neg hlt]
  ·refine .inr ⟨0,0,none,cap,xs.map (.int k),true,rfl,by rw[fq];rfl,?_,?_⟩
   ·simp
   ·rw[List.drop_zero,←List.length_map (f:=Value.int k),List.take_length]
  ·intro n hn
   obtain⟨i,hi⟩:=List.getElem?_of_mem hn
   exact(hxs i n hi).2
end
end Go.Am
set_option linter.unusedSimpArgs false
set_option linter.unusedVariables false
namespace Go.Am
open Go.RowKit
end Go.Am
set_option linter.unusedSimpArgs false
set_option linter.unusedVariables false
namespace Go.Am
open Go.ChangeShapes Go.WideShapes Go.ChangeAt Go.RowKit
inductive Ck where
 |int (k:IntKind)
 |bool
def Ck.mk:Ck→Int→Value
 | .int k,n => .int k n
 | .bool,n => .bool (decide (n≠0))
def Ck.wf:Ck→Int→Prop
 | .int k,n=>(Lit.int k n).wf=true
 | .bool,n=>n=0∨n=1
def tS:List Ck→List Int→List Value
 |k::ks,n::ns=>k.mk n::tS ks ns
 | _,_=>[]
def JH:List Ck→List Int→Prop
 |k::ks,n::ns=>k.wf n∧JH ks ns
 | _,_=>True
theorem lP:∀ {k1:List Ck} {n1:List Int} {k2:List Ck} {n2:List Int},n1.length=k1.length→tS (k1++k2) (n1++n2)=tS k1 n1++tS k2 n2
 | [],[],_,_,_=>rfl
 |k::ks,n::ns,k2,n2,h=>by simp only[List.cons_append,tS,lP (show ns.length=ks.length by simpa using h)]
theorem lQ:∀ {k1:List Ck} {n1:List Int} {k2:List Ck} {n2:List Int},n1.length=k1.length→JH k1 n1→JH k2 n2→JH (k1++k2) (n1++n2)
 | [],[],_,_,_,_,w=>w
 |k::ks,n::ns,k2,n2,h,w1,w2=>⟨w1.1,lQ (show ns.length=ks.length by simpa using h) w1.2 w2⟩
theorem ju:∀ {ks:List Ck} {ns:List Int},ns.length=ks.length→(tS ks ns).length=ks.length
 | [],[],_=>rfl
 |k::ks,n::ns,h=>by simp only[tS,List.length_cons,ju (show ns.length=ks.length by simpa using h)]
theorem yW {Γ:aV}:∀ {ks:List Ck} {ns:List Int} {x:Value},x∈tS ks ns→ay Γ x x
 |k::ks,n::ns,x,h=>by
  simp only[tS,List.mem_cons] at h
  rcases h with rfl |h
  ·cases k;exact .int _ _;exact .bool _
  ·exact yW h
 | [],[],x,h=>by simp[tS] at h
 | [],_::_,x,h=>by simp[tS] at h
 | _::_,[],x,h=>by simp[tS] at h
mutual
def qA (P:Program):Nat→TypeId→Option (List Ck)
 |0,_=>none
 |f+1,t=>match P.underlying t with
  |some (.int k)=>some [.int k]
  |some .bool=>some [.bool]
  |some (.struct fs)=>match sk P f fs.toList 0 with
   |some ks=>cond (Nat.beq ks.length (P.cellsOf t)) (some ks) none
   |none=>none
  |some (.array n e)=>match qA P f e with
   |some ks=>cond (Nat.beq ks.length (P.cellsOf e)&&Nat.beq (n*ks.length) (P.cellsOf t)) (some (List.replicate n ks).flatten) none
   |none=>none
  | _=>none
def sk (P:Program):Nat→List Field→Nat→Option (List Ck)
 |0,_,_=>none
 | _+1,[],_=>some []
 |f+1,fd::r,off=>cond (Nat.beq fd.offset off) (match qA P f fd.type with
  |some ks=>cond (Nat.beq ks.length (P.cellsOf fd.type)) (match sk P f r (off+ks.length) with
   |some ks2=>some (ks++ks2)
   |none=>none) none
  |none=>none) none
end
section
variable {H:Type} {enc:TypeId×Value→H} {P:Program} {w:World} {base:Nat} {spare:Nat→Bool} {held:Bool}
theorem trod_bool {fuel:Nat} {t:TypeId} {cs:List Value} {x:DataW H×List MemPlace} (ht:P.underlying t=some .bool) (h:DataW.trod enc P w base spare held fuel t cs=some x):∃ b,cs=[.bool b]:=by
 cases fuel with
 |zero=>simp[DataW.trod] at h
 |succ fuel=>
  rcases cs with _ | ⟨c,_ | ⟨c2,r⟩⟩
  ·simp[DataW.trod,ht] at h
  ·cases c<;>simp[DataW.trod,ht] at h
   exact⟨_,rfl⟩
  ·simp[DataW.trod,ht] at h
def Flat (ks:List Ck) (cs:List Value):Prop:=∃ ns,cs=tS ks ns∧ns.length=ks.length∧JH ks ns
theorem su {k:Nat} {ks:List Ck}:∀ (n:Nat) {cs:List Value},cs.length=n*k→ks.length=k→(∀ i,i<n→Flat ks ((cs.drop (i*k)).take k))→Flat (List.replicate n ks).flatten cs
 |0,cs,hl,hk,h=>by
  have:cs=[]:=List.eq_nil_of_length_eq_zero (by omega)
  subst this
  exact⟨[],rfl,rfl,trivial⟩
 |n+1,cs,hl,hk,h=>by
  obtain⟨n1,e1,l1,w1⟩:=h 0 (by omega)
  rw[Nat.zero_mul,List.drop_zero] at e1
  have hl':(cs.drop k).length=n*k:=by rw[List.length_drop,hl,Nat.succ_mul];omega
  obtain⟨n2,e2,l2,w2⟩:=su n hl' hk fun i hi=>by
   have:=h (i+1) (by omega)
   rw[List.drop_drop]
   rw[Nat.succ_mul] at this
   rw[Nat.add_comm k];exact this
  rw[List.replicate_succ,List.flatten_cons]
  refine⟨n1++n2,?_,by rw[List.length_append,List.length_append,l1,l2],lQ l1 w1 w2⟩
  rw[lP l1,←e1,←e2,List.take_append_drop]
mutual
theorem nP:∀ (f:Nat) (t:TypeId) (ks:List Ck),qA P f t=some ks→∀ (fuel:Nat) (cs:List Value) (x:DataW H×List MemPlace),DataW.trod enc P w base spare held fuel t cs=some x→Flat ks cs
 |0,t,ks,h,_,_,_,_=>by simp[qA] at h
 |f+1,t,ks,h,fuel,cs,x,hx=>by
  rw[qA] at h
  split at h
  ·rename_i k ht
   obtain rfl:=Option.some.inj h
   obtain⟨n,rfl,hw⟩:=trod_int ht hx
   exact⟨[n],rfl,rfl,hw,trivial⟩
  ·rename_i ht
   obtain rfl:=Option.some.inj h
   obtain⟨b,rfl⟩:=trod_bool ht hx
   cases b
   ·exact⟨[0],rfl,rfl,.inl rfl,trivial⟩
   ·exact⟨[1],rfl,rfl,.inr rfl,trivial⟩
  ·rename_i fs ht
   split at h
   ·rename_i ks' hf
    cases hb:Nat.beq ks'.length (P.cellsOf t) with
    |false=>rw[hb] at h;simp at h
    |true=>
     rw[hb] at h
     obtain rfl:=Option.some.inj h
     have hl:=Nat.eq_of_beq_eq_true hb
     obtain⟨AQ,fuel',ha⟩:=trod_struct ht hx
     obtain⟨ns,e,l,wf⟩:=qB f fs.toList 0 ks' hf fuel' cs ha
     rw[List.drop_zero,List.take_of_length_le (by omega)] at e
     exact⟨ns,e,l,wf⟩
   ·simp at h
  ·rename_i n e ht
   split at h
   ·rename_i ks' hf
    cases hb:(Nat.beq ks'.length (P.cellsOf e)&&Nat.beq (n*ks'.length) (P.cellsOf t)) with
    |false=>rw[hb] at h;simp at h
    |true=>
     rw[hb] at h
     obtain rfl:=Option.some.inj h
     rw[Bool.and_eq_true] at hb
     have hl:=Nat.eq_of_beq_eq_true hb.1
     have KT:=Nat.eq_of_beq_eq_true hb.2
     obtain⟨AQ,fuel',ha⟩:=trod_array ht hx
     refine su (k:=P.cellsOf e) n (by rw[AQ,←KT,hl]) hl fun i hi=>?_
     obtain⟨y,hy⟩:=ha i hi
     exact nP f e ks' hf fuel' _ y hy
   ·simp at h
  ·simp at h
theorem qB:∀ (f:Nat) (r:List Field) (off:Nat) (ks:List Ck),sk P f r off=some ks→∀ (fuel:Nat) (cs:List Value),(∀ fd∈r,∃ y,DataW.trod enc P w base spare held fuel fd.type ((cs.drop fd.offset).take (P.cellsOf fd.type))=some y)→Flat ks ((cs.drop off).take ks.length)
 |0,r,off,ks,h,_,_,_=>by simp[sk] at h
 |f+1,[],off,ks,h,fuel,cs,ha=>by
  rw[sk] at h
  obtain rfl:=Option.some.inj h
  exact⟨[],by simp[tS],rfl,trivial⟩
 |f+1,fd::r,off,ks,h,fuel,cs,ha=>by
  rw[sk] at h
  cases hb:Nat.beq fd.offset off with
  |false=>rw[hb] at h;simp at h
  |true=>
   rw[hb] at h
   simp only[cond_true] at h
   have ho:=Nat.eq_of_beq_eq_true hb
   split at h
   ·rename_i k1 h1
    cases rF:Nat.beq k1.length (P.cellsOf fd.type) with
    |false=>rw[rF] at h;simp at h
    |true=>
     rw[rF] at h
     simp only[cond_true] at h
     have hl:=Nat.eq_of_beq_eq_true rF
     split at h
     ·rename_i k2 h2
      obtain rfl:=Option.some.inj h
      obtain⟨y,hy⟩:=ha fd (by simp)
      obtain⟨n1,e1,l1,w1⟩:=nP f fd.type k1 h1 fuel _ y hy
      obtain⟨n2,e2,l2,w2⟩:=qB f r (off+k1.length) k2 h2 fuel cs fun fd' TN=>ha fd' (by simp[TN])
      rw[ho,←hl] at e1
      refine⟨n1++n2,?_,by rw[List.length_append,List.length_append,l1,l2],lQ l1 w1 w2⟩
      rw[lP l1,←e1,←e2,List.length_append,List.take_add,List.drop_drop]
     ·simp at h
   ·simp at h
end
theorem vp (v0 v1:List View):(eA v0).le (eA (v0++v1)):=by
 refine⟨fun i x h=>?_,fun b n h=>by simp[eA] at h⟩
 simp only[eA] at h ⊢
 cases hi:v0[i]? with
 |none=>rw[hi] at h;simp at h
 |some v=>
  rw[hi] at h
  rw[List.getElem?_append_left (List.getElem?_eq_some_iff.1 hi).1,hi]
  exact h
theorem x8 (v0 v1:List View):Kept (j8 v0) (j8 (v0++v1)):=by
 intro i B h
 rw[fq] at h ⊢
 cases hi:v0[i]? with
 |none=>rw[hi] at h;simp at h
 |some v=>
  rw[hi] at h
  rw[List.getElem?_append_left (List.getElem?_eq_some_iff.1 hi).1,hi]
  exact h
theorem vq {v0:List View} {v:View} {w:World} (h0:lN v0 w) (h1:∃ cs el fz,w.heap[v.b]? = some (.cells cs el fz)∧∀ (i:Nat) (x:Value),v.L[i]? = some x→∃ x',cs[v.s+i]? = some x'∧ay (eA (v0++[v])) x x'):lN (v0++[v]) w:=by
 intro k u hk
 rcases Nat.lt_trichotomy k v0.length with q |q |q
 ·rw[List.getElem?_append_left q] at hk
  obtain⟨cs,el,fz,e1,e2⟩:=h0 k u hk
  exact⟨cs,el,fz,e1,fun i x hx=>by obtain⟨x',a,b⟩:=e2 i x hx;exact⟨x',a,b.mono (vp v0 [v])⟩⟩
 ·subst q
  rw[List.getElem?_append_right (Nat.le_refl _),Nat.sub_self] at hk
  simp only[List.getElem?_cons_zero,Option.some.injEq] at hk
  subst hk
  exact h1
 ·rw[List.getElem?_eq_none (by simp;omega)] at hk;simp at hk
theorem Ap {n:Nat} {a:Addr} {l:List Value} (h:w.cells? base a n=some l) {i:Nat} {c:Value} (hc:l[i]? = some c):w.cell? (a.add i)=some c:=by
 unfold World.cells? at h
 split at h
 ·have hl:=mapM_some_length h
  have hi:i<n:=by have:=(List.getElem?_eq_some_iff.1 hc).1;rw[hl,List.length_range] at this;exact this
  have:=mapM_some_get h i i (by simp[hi])
  rw[←hc];exact this
 ·simp at h
def eO (ks:List Ck) (A:List (List Int)):List Value:=A.flatMap (tS ks)
def iD (ks:List Ck) (A:List (List Int)):Prop:=∀ x∈A,x.length=ks.length∧JH ks x
theorem iD.tail {ks:List Ck} {x:List Int} {A:List (List Int)} (h:iD ks (x::A)):iD ks A:=fun y hy=>h y (by simp[hy])
theorem mM {ks:List Ck}:∀ {A:List (List Int)},iD ks A→(eO ks A).length=A.length*ks.length
 | [],_=>by simp[eO]
 |x::A,h=>by
  have:=mM h.tail
  unfold eO at*
  rw[List.flatMap_cons,List.length_append,this,ju (h x (by simp)).1,List.length_cons,Nat.succ_mul];omega
theorem qC {ks:List Ck}:∀ {A:List (List Int)} (i:Nat),iD ks A→(eO ks A).drop (i*ks.length)=eO ks (A.drop i)
 |A,0,_=>by simp
 | [],i+1,_=>by simp[eO]
 |x::A,i+1,h=>by
  have e:(eO ks (x::A))=tS ks x++eO ks A:=by simp[eO]
  have hl:=ju (h x (by simp)).1
  rw[e,List.drop_succ_cons,←qC i h.tail,Nat.succ_mul,Nat.add_comm,←List.drop_drop,←hl,List.drop_left]
theorem nQ {ks:List Ck} {A:List (List Int)} (h:iD ks A) {i:Nat} {x:List Int} (hx:A[i]? = some x) (j:Nat) (hj:j<ks.length):(eO ks A)[i*ks.length+j]? = (tS ks x)[j]? := by
 have hi:=(List.getElem?_eq_some_iff.1 hx).1
 have hx':=(List.getElem?_eq_some_iff.1 hx).2
 rw[←List.getElem?_drop,qC i h,List.drop_eq_getElem_cons hi,hx']
 unfold eO
 rw[List.flatMap_cons,List.getElem?_append_left (by rw[ju (h x (List.mem_of_getElem? hx)).1];exact hj)]
theorem De {ks:List Ck} (hk:0<ks.length) {A:List (List Int)} (h:iD ks A) {i:Nat} {x:Value} (hx:(eO ks A)[i]? = some x):∃ y,A[i/ks.length]? = some y∧(tS ks y)[i%ks.length]? = some x:=by
 have hi:=(List.getElem?_eq_some_iff.1 hx).1
 rw[mM h] at hi
 have hq:i/ks.length<A.length:=Nat.div_lt_of_lt_mul (by rw[Nat.mul_comm];exact hi)
 refine⟨A[i/ks.length],List.getElem?_eq_getElem hq,?_⟩
 have hm:=Nat.mod_lt i hk
 rw[←nQ h (List.getElem?_eq_getElem hq) _ hm,Nat.mul_comm,Nat.div_add_mod]
 exact hx
def nR (ks:List Ck) (h:PT aj) (q:Nat) (s:Value) (A:List (List Int)):Prop:=
 iD ks A∧((s = .slice none 0 0∧A=[])∨∃ cap,s = .slice (some ⟨q,0,none⟩) A.length cap∧A.length≤cap∧cap<4611686018427387904∧h.get q=some (.cells (PT.ofList .leaf 0 (eO ks A)) true))
theorem nR.keep {ks:List Ck} {h h':PT aj} {q:Nat} {s:Value} {A:List (List Int)} (H:nR ks h q s A) (k:Kept h h'):nR ks h' q s A:=by
 obtain⟨h1,h2⟩:=H
 refine⟨h1,?_⟩
 rcases h2 with e | ⟨cap,e1,e2,e3,e4⟩
 ·exact .inl e
 ·exact .inr ⟨cap,e1,e2,e3,k _ _ e4⟩
set_option maxRecDepth 100000 in
theorem Aq {f:Nat} {t e:TypeId} {ks:List Ck} (ht:P.underlying t=some (.slice e)) (hf:qA P f e=some ks) (hk:ks.length=P.cellsOf e) (hk0:0<ks.length) (hb:0<P.bytesOf e)
  {v:Value} {d:DataW H} {p:List MemPlace} {base':Nat} {v0:List View} (XZ:lN v0 w) (hok:Value.okWide P w .any base' t v) (h:DataW.Trod enc P w base (fun _=>true) held t v d p) (hz:∀ n∈d.weights P t,n≤reachBytes):
  ∃ (v1:List View) (sl:Value) (A:List (List Int)),lN (v0++v1) w∧ay (eA (v0++v1)) sl v∧A.length≤reachBytes∧nR ks (j8 (v0++v1)) v0.length sl A:=by
 unfold Value.okWide at hok
 rw[ht] at hok
 simp only at hok
 obtain⟨fuel,h⟩:=h
 have hv:∃ a len cap,v = .slice a len cap:=by
  unfold Cell.okWide at hok
  rw[ht] at hok
  cases v<;>first |exact⟨_,_,_,rfl⟩ | (simp[Cell.ok,ht] at hok;done)
 obtain⟨a0,len,cap,rfl⟩:=hv
 rcases lu ht h with e' | ⟨a,len',cap',elems,rest,e',hx,hcap,hle,fuel',hel⟩
 ·simp only[Value.cells,List.cons.injEq,and_true] at e'
  cases e'
  exact⟨[],.slice none 0 0,[],by rw[List.append_nil];exact XZ,.nilslice 0 0,by simp,fun x hx=>by simp at hx,.inl ⟨rfl,rfl⟩⟩
 ·simp only[Value.cells,List.cons.injEq,and_true] at e'
  cases e'
  unfold Cell.okWide at hok
  rw[ht] at hok
  simp only[Cell.ok,ht] at hok
  obtain⟨-,-,-,sj,row,cells,jk,-⟩:=hok
  have xZ:∃ c el fz,w.heap[a.block]? = some (.cells c el fz):=by
   unfold World.shape? at jk
   split at jk
   ·exact⟨_,_,_,by assumption⟩
   ·simp at jk
  obtain⟨c,el,fz,hc⟩:=xZ
  obtain⟨A,hAl,X0⟩:∃ A:List (List Int),A.length=len∧∀ (i:Nat) x,A[i]? = some x→(∀ (j:Nat) u,(tS ks x)[j]? = some u→c[a.off+(i*ks.length+j)]? = some u)∧x.length=ks.length∧JH ks x:=by
   refine tR len fun i hi=>?_
   obtain⟨l,y,hl,-,hy⟩:=hel i hi
   obtain⟨x,rfl,LW,hxw⟩:=nP f e ks hf fuel' l y hy
   refine⟨x,fun j u hu=>?_,LW,hxw⟩
   have hv:=Ap hl hu
   unfold World.cell? at hv
   rw[←hk] at hv
   have e0:(a.add (i*ks.length)).add j=⟨a.block,a.off+(i*ks.length+j),none⟩:=by
    obtain⟨ab,ao,TL⟩:=a
    simp only at sj
    subst sj
    unfold Addr.add
    by_cases zq:i*ks.length=0
    ·by_cases hj0:j=0
     ·simp[zq,hj0]
     ·simp[zq,hj0]
    ·by_cases hj0:j=0
     ·simp[zq,hj0]
     ·simp[zq,hj0,Nat.add_assoc]
   rw[e0] at hv
   simp only[hc] at hv
   simpa using hv
  have hsz:cap*P.bytesOf e≤reachBytes:=by
   refine hz _ ?_
   simp only at hx
   rw[hx]
   simp only[DataW.weights,ht]
   rw[hcap]
   exact List.mem_cons_self
  have Oe:cap≤reachBytes:=Nat.le_trans (Nat.le_mul_of_pos_right _ hb) hsz
  have hlt: ¬ aA≤cap:=by
   have:reachBytes<aA:=by decide
   omega
  subst hAl
  have hA:iD ks A:=fun x hx=>by
   obtain⟨i,hi⟩:=List.getElem?_of_mem hx
   exact(X0 i x hi).2
  have Ip:∀ i x,(eO ks A)[i]? = some x→c[a.off+i]? = some x∧ay (eA (v0++[⟨a.block,a.off,eO ks A⟩])) x x:=by
   intro i x hx
   obtain⟨y,h1,h2⟩:=De hk0 hA hx
   have h3:=(X0 _ _ h1).1 _ _ h2
   rw[Nat.mul_comm,Nat.div_add_mod] at h3
   exact⟨h3,yW (List.mem_of_getElem? h2)⟩
  refine⟨[⟨a.block,a.off,eO ks A⟩],.slice (some ⟨v0.length,0,none⟩) A.length cap,A,vq XZ ⟨c,el,fz,hc,fun i x hx=>⟨x,Ip i x hx⟩⟩,?_,by omega,hA,.inr ⟨cap,rfl,by omega,by unfold aA at hlt;omega,?_⟩⟩
  ·refine .slice _ _ _ _ _ (.inl ⟨rfl,sj,a.off,?_,rfl⟩) ?_
   ·simp[eA]
   ·unfold aV.cap
    rw[if_neg hlt]
  ·rw[fq,List.getElem?_append_right (Nat.le_refl _),Nat.sub_self];rfl
end
theorem Dg {x:Int} (h:(Lit.int .u8 x).wf=true):0≤x∧x<256:=by
 simp only[Lit.wf,Bool.and_eq_true,decide_eq_true_eq] at h
 have e1:IntKind.u8.min=0:=rfl
 have e2:IntKind.u8.max=255:=rfl
 omega
theorem Ar {x:Int} (h:(Lit.int .i64 x).wf=true) : -9223372036854775808≤x∧x≤9223372036854775807:=by
 simp only[Lit.wf,Bool.and_eq_true,decide_eq_true_eq] at h
 have e1:IntKind.i64.min = -9223372036854775808:=rfl
 have e2:IntKind.i64.max=9223372036854775807:=rfl
 omega
end Go.Am
