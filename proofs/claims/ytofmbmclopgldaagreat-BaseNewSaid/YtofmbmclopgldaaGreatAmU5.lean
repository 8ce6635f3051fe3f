/-
  A part of the proof: contracts of inner functions.
-/
import Derived.Test.YtofmbmclopgldaaGreatAmY4
import Derived.RowKit3
import Derived.SizedLaws
import Derived.Below
import Derived.WalkKit
import Derived.ProofKit
import Derived.OpenShut
set_option linter.unusedSimpArgs false
set_option linter.unusedVariables false
namespace Go.Am
open Go.RowKit
structure View where
 b:Nat
 s:Nat
 L:List Value
def kW (vs:List View):br:=⟨fun i=>(vs[i]?).map fun v=>(v.b,v.s),fun _=>none⟩
def qC:List View→PT ak:=fun vs=>PT.ofList .leaf 0 (vs.map fun v => .cells (PT.ofList .leaf 0 v.L) true)
theorem jU (vs:List View) (i:Nat):(qC vs).get i=(vs[i]?).map fun v => .cells (PT.ofList .leaf 0 v.L) true:=by
 unfold qC;rw[PT.aI,List.getElem?_map]
theorem yC (vs:List View):bL (qC vs) vs.length:=by
 intro i hi
 rw[jU,List.getElem?_eq_none hi];rfl
def AZ (vs:List View) (w:World):Prop:=∀ (k:Nat) (v:View),vs[k]? = some v→∃ cs el fz,w.heap[v.b]? = some (.cells cs el fz)∧∀ (i:Nat) (x:Value),v.L[i]? = some x→∃ x',cs[v.s+i]? = some x'∧aA (kW vs) x x'
section
variable {H:Type} {enc:TypeId×Value→H} {P:Program} {w:World} {base:Nat} {spare:Nat→Bool} {held:Bool}
theorem mapM_some {α β:Type} {f:α→Option β}:∀ {l:List α} {ys:List β},l.mapM f=some ys→∀ a∈l,∃ y,f a=some y
 | [],ys,h,a,ha=>by simp at ha
 |x::l,ys,h,a,ha=>by
  rw[List.mapM_cons] at h
  cases hx:f x with
  |none=>rw[hx] at h;simp at h
  |some y=>
   rw[hx] at h
   cases hl:l.mapM f with
   |none=>rw[hl] at h;simp at h
   |some zs=>
    rcases List.mem_cons.1 ha with rfl |ha
    ·exact⟨y,hx⟩
    ·exact mapM_some hl a ha
theorem trod_int {fuel:Nat} {t:TypeId} {k:IntKind} {cs:List Value} {x:DataW H×List MemPlace} (ht:P.underlying t=some (.int k)) (h:DataW.trod enc P w base spare held fuel t cs=some x):∃ n,cs=[.int k n]∧(Lit.int k n).wf=true:=by
 cases fuel with
 |zero=>simp[DataW.trod] at h
 |succ fuel=>
  rcases cs with _ | ⟨c,_ | ⟨c2,r⟩⟩
  ·simp[DataW.trod,ht] at h
  ·cases c<;>simp[DataW.trod,ht] at h
   obtain⟨⟨rfl,h1⟩,_⟩:=h
   exact⟨_,rfl,h1⟩
  ·simp[DataW.trod,ht] at h
theorem trod_array {fuel:Nat} {t e:TypeId} {n:Nat} {cs:List Value} {x:DataW H×List MemPlace} (ht:P.underlying t=some (.array n e)) (h:DataW.trod enc P w base spare held fuel t cs=some x):
  cs.length=P.cellsOf t∧∃ fuel',∀ i,i<n→∃ y,DataW.trod enc P w base spare held fuel' e ((cs.drop (i*P.cellsOf e)).take (P.cellsOf e))=some y:=by
 cases fuel with
 |zero=>simp[DataW.trod] at h
 |succ fuel=>
  unfold DataW.trod at h
  rw[ht] at h
  simp only at h
  split at h
  ·rename_i hl
   refine⟨hl,fuel,fun i hi=>?_⟩
   cases hm:(List.range n).mapM fun i=>DataW.trod enc P w base spare held fuel e ((cs.drop (i*P.cellsOf e)).take (P.cellsOf e)) with
   |none=>rw[hm] at h;simp at h
   |some ys=>exact mapM_some hm i (by simpa using hi)
  ·simp at h
end
end Go.Am
set_option linter.unusedSimpArgs false
set_option linter.unusedVariables false
namespace Go.Am
open Go.RowKit
theorem A0 {P:Program} {O:Over} (hO:cr P O) (nk:P.follows .mixedOrders=true) {f:FuncId} {args args':List Value} {vs:List View} {w:World} (hv:AZ vs w) (ha:aF (kW vs) args args')
  (H:cW P O f args (qC vs) vs.length fun v _ _=>v = .bool true):Calls P f ⟨args'⟩ w fun e w'=>e = .returned (.bool true)∧vU w w'∧Below w.heap.size w w':=by
 have hS:bh (kW vs) w (qC vs) w:=by
  refine⟨.refl _ _,fun _ _=>rfl,?_,?_,?_,?_,?_,?_⟩
  ·intro i B hi
   rw[jU] at hi
   cases hk:vs[i]? with
   |none=>rw[hk] at hi;simp at hi
   |some v=>
    rw[hk] at hi
    obtain rfl:=Option.some.inj hi
    obtain⟨cs,el,fz,h1,h2⟩:=hv i v hk
    refine⟨v.b,v.s,by simp[kW,hk],⟨cs,el,fz,h1,fun h=>by simp at h,fun j x hx=>?_⟩,fun h=>by simp[ak.cA] at h⟩
    rw[PT.aI] at hx
    exact h2 j x hx
  ·intro i j B B' b s b' s' hij hi _ _ _ hw
   rw[jU] at hi
   cases hk:vs[i]? with
   |none=>rw[hk] at hi;simp at hi
   |some v=>rw[hk] at hi;obtain rfl:=Option.some.inj hi;simp[ak.cA] at hw
  ·intro i b s e
   cases hk:vs[i]? with
   |none=>simp[kW,hk] at e
   |some v=>
    simp[kW,hk] at e
    obtain⟨cs,el,fz,h1,_⟩:=hv i v hk
    rw[←e.1]
    exact cS h1
  ·intro b n e;simp[kW] at e
  ·exact⟨vs.length,fun i hi=>by simp[kW,List.getElem?_eq_none hi]⟩
  ·intro i c ro hi
   rw[jU] at hi
   cases hk:vs[i]? with
   |none=>rw[hk] at hi;simp at hi
   |some v=>rw[hk] at hi;have:=ak.cells.inj (Option.some.inj hi);exact⟨v.L,this.1.symm⟩
 obtain⟨k,v,h',n',e,rfl⟩:=H
 have Ei:Wf (S0 (qC vs) vs.length):=by
  intro i hi
  exact yC vs i hi
 have:=nQ (oI hO nk k).1 (pH k) e (Nat.zero_le _) Ei hS (fun i b hb=>hb) ha (fun i hi _=>by simp[kW,List.getElem?_eq_none (show vs.length≤i from hi)]) none
 have:=callsIn_wide.1 (show CallsIn Fence.wide 0 P f ⟨args'⟩ w _ from this)
 refine Calls.mono this ?_
 rintro e w' ⟨aS,v',H',rfl,hex,NI⟩
 cases NI
 have hb:=hex.rel.below
 refine⟨rfl,⟨⟨hb.os,hb.output,fun i hi=>?_⟩,hex.rel.fz,hb.size⟩,hb⟩
 rw[hb.block i hi]
 cases hw:w.heap[i]? with
 |none=>simp[hw]
 |some o=>cases o<;>simp[hw]
section
variable {H:Type} {enc:TypeId×Value→H} {P:Program} {w:World} {base:Nat} {spare:Nat→Bool} {held:Bool}
theorem B6 {α β:Type} {f:α→Option β} {l:List α} {ys:List β} (h:l.mapM f=some ys) {j:Nat} {a:α} (ha:l[j]? = some a):∃ y,ys[j]? = some y∧f a=some y:=by
 have h1:=mapM_some_get h j a ha
 have h2:=mapM_some_length h
 have h3:j<ys.length:=by
  rw[h2]
  exact(List.getElem?_eq_some_iff.1 ha).1
 exact⟨ys[j],List.getElem?_eq_getElem h3,by rw[h1,List.getElem?_eq_getElem h3]⟩
theorem lW {fuel:Nat} {t:TypeId} {fs:Array Field} {cs:List Value} {x:DataW H×List MemPlace} (ht:P.underlying t=some (.struct fs)) (h:DataW.trod enc P w base spare held fuel t cs=some x):
  cs.length=P.cellsOf t∧∃ fuel' parts,x.1 = .agg parts∧∀ (j:Nat) (f:Field),fs.toList[j]? = some f→∃ y,parts[j]? = some y.1∧DataW.trod enc P w base spare held fuel' f.type ((cs.drop f.offset).take (P.cellsOf f.type))=some y:=by
 cases fuel with
 |zero=>simp[DataW.trod] at h
 |succ fuel=>
  unfold DataW.trod at h
  rw[ht] at h
  simp only at h
  split at h
  ·rename_i hl
   cases hm:fs.toList.mapM fun f=>DataW.trod enc P w base spare held fuel f.type ((cs.drop f.offset).take (P.cellsOf f.type)) with
   |none=>rw[hm] at h;simp at h
   |some ys=>
    rw[hm] at h
    simp only[Option.map_some,Option.some.injEq] at h
    refine⟨hl,fuel,ys.map (·.1),by rw[←h],fun j f hf=>?_⟩
    obtain⟨y,h1,h2⟩:=B6 hm hf
    exact⟨y,by simp[h1],h2⟩
  ·simp at h
theorem lX {t:TypeId} {fs:Array Field} {parts:List (DataW H)} {j:Nat} {f:Field} {d:DataW H} (ht:P.underlying t=some (.struct fs)) (hf:fs.toList[j]? = some f) (hd:parts[j]? = some d):∀ n∈d.weights P f.type,n∈(DataW.agg parts).weights P t:=by
 intro n hn
 simp only[DataW.weights,ht]
 exact DataW.weights_mem_each (j:=j) (by simp[hf]) hd n hn
theorem uu {fuel:Nat} {t e:TypeId} {cs:List Value} {x:DataW H×List MemPlace} (ht:P.underlying t=some (.slice e)) (h:DataW.trod enc P w base (fun _=>true) held fuel t cs=some x):
  cs=[.slice none 0 0]∨∃ a len cap elems rest,cs=[.slice (some a) len cap]∧x.1 = .slice elems rest∧elems.length+rest.length=cap∧len≤cap∧∃ fuel',∀ i,i<len→∃ l y,w.cells? base (a.add (i*P.cellsOf e)) (P.cellsOf e)=some l∧elems[i]? = some y.1∧DataW.trod enc P w base (fun _=>true) held fuel' e l=some y:=by
 cases fuel with
 |zero=>simp[DataW.trod] at h
 |succ fuel=>
  rcases cs with _ | ⟨c,_ | ⟨c2,r⟩⟩
  ·simp[DataW.trod,ht] at h
  ·cases c with
   |slice a len cap=>
    cases a with
    |none=>
     left
     unfold DataW.trod at h
     rw[ht] at h
     split at h<;>simp_all
    |some a=>
     right
     unfold DataW.trod at h
     rw[ht] at h
     simp only at h
     split at h
     ·rename_i hc
      cases hm:(List.range len).mapM fun i=>(w.cells? base (a.add (i*P.cellsOf e)) (P.cellsOf e)).bind (DataW.trod enc P w base (fun _=>true) held fuel e) with
      |none=>rw[hm] at h;simp at h
      |some ys=>
       rw[hm] at h
       simp only[Option.bind_some,if_true] at h
       cases hr:(List.range (cap-len)).mapM fun j=>(w.cells? base (a.add ((len+j)*P.cellsOf e)) (P.cellsOf e)).bind (DataW.trod enc P w base (fun _=>true) held fuel e) with
       |none=>rw[hr] at h;simp at h
       |some zs=>
        rw[hr] at h
        simp only[Option.map_some,Option.some.injEq] at h
        have e1:=mapM_some_length hm
        have e2:=mapM_some_length hr
        simp only[List.length_range] at e1 e2
        refine⟨a,len,cap,ys.map (·.1),zs.map (·.1),rfl,by rw[←h],?_,hc.2.1,fuel,fun i hi=>?_⟩
        ·have:=hc.2.1
         simp only[List.length_map];omega
        ·obtain⟨y,h1,h2⟩:=B6 hm (j:=i) (a:=i) (by simp[hi])
         cases hl:w.cells? base (a.add (i*P.cellsOf e)) (P.cellsOf e) with
         |none=>rw[hl] at h2;simp at h2
         |some l=>rw[hl] at h2;exact⟨l,y,rfl,by simp[h1],h2⟩
     ·simp at h
   | _=>simp[DataW.trod,ht] at h
  ·simp[DataW.trod,ht] at h
theorem B7 {α:Type} {p:Nat→α→Prop}:∀ (n:Nat),(∀ i,i<n→∃ a,p i a)→∃ xs:List α,xs.length=n∧∀ i a,xs[i]? = some a→p i a
 |0,_=>⟨[],rfl,fun i a h=>by simp at h⟩
 |n+1,h=>by
  obtain⟨xs,h1,h2⟩:=B7 n fun i hi=>h i (by omega)
  obtain⟨a,ha⟩:=h n (by omega)
  refine⟨xs++[a],by simp[h1],fun i b hb=>?_⟩
  by_cases hi:i<n
  ·rw[List.getElem?_append_left (by omega)] at hb;exact h2 i b hb
  ·rw[List.getElem?_append_right (by omega)] at hb
   have:i=n:=by
    rcases Nat.lt_or_ge (i-xs.length) 1 with h |h
    ·omega
    ·rw[List.getElem?_eq_none (by simpa using h)] at hb;simp at hb
   subst this
   simp[h1] at hb
   subst hb;exact ha
theorem cells?_one {a:Addr} {l:List Value} (h:w.cells? base a 1=some l):∃ c,l=[c]∧w.cell? (a.add 0)=some c:=by
 unfold World.cells? at h
 split at h
 ·simp only[List.range_succ,List.range_zero,List.nil_append,List.mapM_cons,List.mapM_nil] at h
  cases hc:w.cell? (a.add 0) with
  |none=>rw[hc] at h;simp at h
  |some c=>rw[hc] at h;simp at h;exact⟨c,h.symm,rfl⟩
 ·simp at h
theorem open_ints {fuel:Nat} {t e:TypeId} {k:IntKind} {cs:List Value} {x:DataW H×List MemPlace} {base':Nat} (ht:P.underlying t=some (.slice e)) (he:P.underlying e=some (.int k)) (h1:P.cellsOf e=1) (hb:0<P.bytesOf e)
  (h:DataW.trod enc P w base (fun _=>true) held fuel t cs=some x) (hok:∀ v,cs[0]? = some v→Cell.okWide P w .any base' t v) (hz:∀ n∈x.1.weights P t,n≤reachBytes):
  ∃ (vs:List View) (sl s':Value) (xs:List Int),cs=[s']∧AZ vs w∧aA (kW vs) sl s'∧aW k (qC vs) sl xs∧xs.length≤reachBytes∧(∀ n∈xs,(Lit.int k n).wf=true)∧∀ a n c,sl = .slice a n c→n≤c∧c<aB:=by
 rcases uu ht h with rfl | ⟨a,len,cap,elems,rest,rfl,hx,hcap,hle,fuel',hel⟩
 ·exact⟨[],.slice none 0 0,_,[],rfl,fun k v h=>by simp at h,.nilslice 0 0,.inl ⟨rfl,rfl⟩,by simp,by simp,fun a n c e=>by cases e;exact⟨Nat.le_refl _,by decide⟩⟩
 ·have hok:=hok _ rfl
  unfold Cell.okWide at hok
  rw[ht] at hok
  simp only[Cell.ok,ht] at hok
  obtain⟨-,-,-,Mr,row,cells,sx,-⟩:=hok
  have Ou:∃ c el fz,w.heap[a.block]? = some (.cells c el fz):=by
   unfold World.shape? at sx
   split at sx
   ·exact⟨_,_,_,by assumption⟩
   ·simp at sx
  obtain⟨c,el,fz,hc⟩:=Ou
  obtain⟨xs,TT,hxs⟩:∃ xs:List Int,xs.length=len∧∀ (i:Nat) n,xs[i]? = some n→c[a.off+i]? = some (.int k n)∧(Lit.int k n).wf=true:=by
   refine B7 len fun i hi=>?_
   obtain⟨l,y,hl,-,hy⟩:=hel i hi
   rw[h1,Nat.mul_one] at hl
   obtain⟨v,rfl,hv⟩:=cells?_one hl
   obtain⟨n,hn,hw⟩:=trod_int he hy
   simp only[List.cons.injEq,and_true] at hn
   subst hn
   refine⟨n,?_,hw⟩
   unfold World.cell? at hv
   have e0:(a.add i).add 0=⟨a.block,a.off+i,none⟩:=by
    unfold Addr.add
    by_cases LA:i=0
    ·subst LA;simp only[if_true];rw[←Mr];rfl
    ·simp only[if_true,if_neg LA]
   rw[e0] at hv
   simp only[hc] at hv
   simpa using hv
  have hsz:cap*P.bytesOf e≤reachBytes:=by
   refine hz _ ?_
   rw[hx]
   simp only[DataW.weights,ht]
   rw[hcap]
   exact List.mem_cons_self
  have ad2:cap≤reachBytes:=Nat.le_trans (Nat.le_mul_of_pos_right _ hb) hsz
  have hlt: ¬ aB≤cap:=by
   have:reachBytes<aB:=by decide
   omega
  subst TT
  refine⟨[⟨a.block,a.off,xs.map (.int k)⟩],.slice (some ⟨0,0,none⟩) xs.length cap,_,xs,rfl,?_,?_,?_,by omega,?_,fun a n c e=>by cases e;exact⟨hle,by omega⟩⟩
  ·intro j v hj
   match j,hj with
   |0,hj=>
    simp only[List.getElem?_cons_zero,Option.some.injEq] at hj
    subst hj
    refine⟨c,el,fz,hc,fun i x hx=>?_⟩
    simp only[List.getElem?_map] at hx
    cases hi:xs[i]? with
    |none=>rw[hi] at hx;simp at hx
    |some n=>
     rw[hi] at hx
     obtain rfl:=Option.some.inj hx
     exact⟨_,(hxs i n hi).1,.int k n⟩
   |j+1,hj=>simp at hj
  ·refine .slice _ _ _ _ _ (.inl ⟨rfl,Mr,a.off,rfl,rfl⟩) ?_
   unfold br.cap
   rw[if_neg hlt]
  ·refine .inr ⟨0,0,none,cap,xs.map (.int k),true,rfl,by rw[jU];rfl,?_,?_⟩
   ·simp
   ·rw[List.drop_zero,←List.length_map (f:=Value.int k),List.take_length]
  ·intro n hn
   obtain⟨i,hi⟩:=List.getElem?_of_mem hn
   exact(hxs i n hi).2
end
end Go.Am
set_option linter.unusedSimpArgs false
set_option linter.unusedVariables false
namespace Go.Am
open Go.RowKit
end Go.Am
set_option linter.unusedSimpArgs false
set_option linter.unusedVariables false
namespace Go.Am
open Go.ChangeShapes Go.WideShapes Go.ChangeAt Go.RowKit
inductive Ck where
 |int (k:IntKind)
 |bool
def Ck.mk:Ck→Int→Value
 | .int k,n => .int k n
 | .bool,n => .bool (decide (n≠0))
def Ck.wf:Ck→Int→Prop
 | .int k,n=>(Lit.int k n).wf=true
 | .bool,n=>n=0∨n=1
def mkL:List Ck→List Int→List Value
 |k::ks,n::ns=>k.mk n::mkL ks ns
 | _,_=>[]
def wfL:List Ck→List Int→Prop
 |k::ks,n::ns=>k.wf n∧wfL ks ns
 | _,_=>True
section
variable {H:Type} {enc:TypeId×Value→H} {P:Program} {w:World} {base:Nat} {spare:Nat→Bool} {held:Bool}
def TU (ks:List Ck) (A:List (List Int)):List Value:=A.flatMap (mkL ks)
def Ov (ks:List Ck) (A:List (List Int)):Prop:=∀ x∈A,x.length=ks.length∧wfL ks x
def A1 (ks:List Ck) (h:PT ak) (q:Nat) (s:Value) (A:List (List Int)):Prop:=
 Ov ks A∧((s = .slice none 0 0∧A=[])∨∃ cap,s = .slice (some ⟨q,0,none⟩) A.length cap∧A.length≤cap∧cap<4611686018427387904∧h.get q=some (.cells (PT.ofList .leaf 0 (TU ks A)) true))
theorem A1.keep {ks:List Ck} {h h':PT ak} {q:Nat} {s:Value} {A:List (List Int)} (H:A1 ks h q s A) (k:Kept h h'):A1 ks h' q s A:=by
 obtain⟨h1,h2⟩:=H
 refine⟨h1,?_⟩
 rcases h2 with e | ⟨cap,e1,e2,e3,e4⟩
 ·exact .inl e
 ·exact .inr ⟨cap,e1,e2,e3,k _ _ e4⟩
end
end Go.Am
