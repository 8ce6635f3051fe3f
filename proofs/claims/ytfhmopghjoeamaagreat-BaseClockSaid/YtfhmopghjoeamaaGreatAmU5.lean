/-
  A part of the proof: contracts of inner functions.
-/
import Derived.Test.YtfhmopghjoeamaaGreatAmY4
import Derived.RowKit3
import Derived.SizedLaws
import Derived.Below
import Derived.WalkKit
import Derived.ProofKit
import Derived.OpenShut
set_option linter.unusedSimpArgs false
set_option linter.unusedVariables false
namespace Go.Am
open Go.RowKit
structure View where
 b:Nat
 s:Nat
 L:List Value
def ew (vs:List View):aT:=⟨fun i=>(vs[i]?).map fun v=>(v.b,v.s),fun _=>none⟩
def oJ:List View→PT ak:=fun vs=>PT.ofList .leaf 0 (vs.map fun v => .cells (PT.ofList .leaf 0 v.L) true)
theorem h_ (vs:List View) (i:Nat):(oJ vs).get i=(vs[i]?).map fun v => .cells (PT.ofList .leaf 0 v.L) true:=by
 unfold oJ;rw[PT.aF,List.getElem?_map]
theorem sY (vs:List View):cW (oJ vs) vs.length:=by
 intro i hi
 rw[h_,List.getElem?_eq_none hi];rfl
def oK (vs:List View) (w:World):Prop:=∀ (k:Nat) (v:View),vs[k]? = some v→∃ cs el fz,w.heap[v.b]? = some (.cells cs el fz)∧∀ (i:Nat) (x:Value),v.L[i]? = some x→∃ x',cs[v.s+i]? = some x'∧ay (ew vs) x x'
section
variable {H:Type} {enc:TypeId×Value→H} {P:Program} {w:World} {base:Nat} {spare:Nat→Bool} {held:Bool}
theorem mapM_some {α β:Type} {f:α→Option β}:∀ {l:List α} {ys:List β},l.mapM f=some ys→∀ a∈l,∃ y,f a=some y
 | [],ys,h,a,ha=>by simp at ha
 |x::l,ys,h,a,ha=>by
  rw[List.mapM_cons] at h
  cases hx:f x with
  |none=>rw[hx] at h;simp at h
  |some y=>
   rw[hx] at h
   cases hl:l.mapM f with
   |none=>rw[hl] at h;simp at h
   |some zs=>
    rcases List.mem_cons.1 ha with rfl |ha
    ·exact⟨y,hx⟩
    ·exact mapM_some hl a ha
theorem trod_int {fuel:Nat} {t:TypeId} {k:IntKind} {cs:List Value} {x:DataW H×List MemPlace} (ht:P.underlying t=some (.int k)) (h:DataW.trod enc P w base spare held fuel t cs=some x):∃ n,cs=[.int k n]∧(Lit.int k n).wf=true:=by
 cases fuel with
 |zero=>simp[DataW.trod] at h
 |succ fuel=>
  rcases cs with _ | ⟨c,_ | ⟨c2,r⟩⟩
  ·simp[DataW.trod,ht] at h
  ·cases c<;>simp[DataW.trod,ht] at h
   obtain⟨⟨rfl,h1⟩,_⟩:=h
   exact⟨_,rfl,h1⟩
  ·simp[DataW.trod,ht] at h
theorem trod_struct {fuel:Nat} {t:TypeId} {fs:Array Field} {cs:List Value} {x:DataW H×List MemPlace} (ht:P.underlying t=some (.struct fs)) (h:DataW.trod enc P w base spare held fuel t cs=some x):
  cs.length=P.cellsOf t∧∃ fuel',∀ f∈fs.toList,∃ y,DataW.trod enc P w base spare held fuel' f.type ((cs.drop f.offset).take (P.cellsOf f.type))=some y:=by
 cases fuel with
 |zero=>simp[DataW.trod] at h
 |succ fuel=>
  unfold DataW.trod at h
  rw[ht] at h
  simp only at h
  split at h
  ·rename_i hl
   refine⟨hl,fuel,?_⟩
   cases hm:fs.toList.mapM fun f=>DataW.trod enc P w base spare held fuel f.type ((cs.drop f.offset).take (P.cellsOf f.type)) with
   |none=>rw[hm] at h;simp at h
   |some ys=>exact mapM_some hm
  ·simp at h
theorem trod_array {fuel:Nat} {t e:TypeId} {n:Nat} {cs:List Value} {x:DataW H×List MemPlace} (ht:P.underlying t=some (.array n e)) (h:DataW.trod enc P w base spare held fuel t cs=some x):
  cs.length=P.cellsOf t∧∃ fuel',∀ i,i<n→∃ y,DataW.trod enc P w base spare held fuel' e ((cs.drop (i*P.cellsOf e)).take (P.cellsOf e))=some y:=by
 cases fuel with
 |zero=>simp[DataW.trod] at h
 |succ fuel=>
  unfold DataW.trod at h
  rw[ht] at h
  simp only at h
  split at h
  ·rename_i hl
   refine⟨hl,fuel,fun i hi=>?_⟩
   cases hm:(List.range n).mapM fun i=>DataW.trod enc P w base spare held fuel e ((cs.drop (i*P.cellsOf e)).take (P.cellsOf e)) with
   |none=>rw[hm] at h;simp at h
   |some ys=>exact mapM_some hm i (by simpa using hi)
  ·simp at h
end
end Go.Am
set_option linter.unusedSimpArgs false
set_option linter.unusedVariables false
namespace Go.Am
open Go.RowKit
theorem vo {P:Program} {O:Over} (hO:bW P O) (jW:P.follows .mixedOrders=true) {f:FuncId} {args args':List Value} {vs:List View} {w:World} (hv:oK vs w) (ha:aB (ew vs) args args')
  (H:gN P O f args (oJ vs) vs.length fun v _ _=>v = .bool true):Calls P f ⟨args'⟩ w fun e w'=>e = .returned (.bool true)∧qI w w'∧Below w.heap.size w w':=by
 have hS:aQ (ew vs) w (oJ vs) w:=by
  refine⟨.refl _ _,fun _ _=>rfl,?_,?_,?_,?_,?_,?_⟩
  ·intro i B hi
   rw[h_] at hi
   cases hk:vs[i]? with
   |none=>rw[hk] at hi;simp at hi
   |some v=>
    rw[hk] at hi
    obtain rfl:=Option.some.inj hi
    obtain⟨cs,el,fz,h1,h2⟩:=hv i v hk
    refine⟨v.b,v.s,by simp[ew,hk],⟨cs,el,fz,h1,fun h=>by simp at h,fun j x hx=>?_⟩,fun h=>by simp[ak.bI] at h⟩
    rw[PT.aF] at hx
    exact h2 j x hx
  ·intro i j B B' b s b' s' hij hi _ _ _ hw
   rw[h_] at hi
   cases hk:vs[i]? with
   |none=>rw[hk] at hi;simp at hi
   |some v=>rw[hk] at hi;obtain rfl:=Option.some.inj hi;simp[ak.bI] at hw
  ·intro i b s e
   cases hk:vs[i]? with
   |none=>simp[ew,hk] at e
   |some v=>
    simp[ew,hk] at e
    obtain⟨cs,el,fz,h1,_⟩:=hv i v hk
    rw[←e.1]
    exact bU h1
  ·intro b n e;simp[ew] at e
  ·exact⟨vs.length,fun i hi=>by simp[ew,List.getElem?_eq_none hi]⟩
  ·intro i c ro hi
   rw[h_] at hi
   cases hk:vs[i]? with
   |none=>rw[hk] at hi;simp at hi
   |some v=>rw[hk] at hi;have:=ak.cells.inj (Option.some.inj hi);exact⟨v.L,this.1.symm⟩
 obtain⟨k,v,h',n',e,rfl⟩:=H
 have Ov:Wf (S0 (oJ vs) vs.length):=by
  intro i hi
  exact sY vs i hi
 have:=kj (kX hO jW k).1 (lI k) e (Nat.zero_le _) Ov hS (fun i b hb=>hb) ha (fun i hi _=>by simp[ew,List.getElem?_eq_none (show vs.length≤i from hi)]) none
 have:=callsIn_wide.1 (show CallsIn Fence.wide 0 P f ⟨args'⟩ w _ from this)
 refine Calls.mono this ?_
 rintro e w' ⟨aH,v',H',rfl,hex,IV⟩
 cases IV
 have hb:=hex.rel.below
 refine⟨rfl,⟨⟨hb.os,hb.output,fun i hi=>?_⟩,hex.rel.fz,hb.size⟩,hb⟩
 rw[hb.block i hi]
 cases hw:w.heap[i]? with
 |none=>simp[hw]
 |some o=>cases o<;>simp[hw]
section
variable {H:Type} {enc:TypeId×Value→H} {P:Program} {w:World} {base:Nat} {spare:Nat→Bool} {held:Bool}
theorem CM {α β:Type} {f:α→Option β} {l:List α} {ys:List β} (h:l.mapM f=some ys) {j:Nat} {a:α} (ha:l[j]? = some a):∃ y,ys[j]? = some y∧f a=some y:=by
 have h1:=mapM_some_get h j a ha
 have h2:=mapM_some_length h
 have h3:j<ys.length:=by
  rw[h2]
  exact(List.getElem?_eq_some_iff.1 ha).1
 exact⟨ys[j],List.getElem?_eq_getElem h3,by rw[h1,List.getElem?_eq_getElem h3]⟩
theorem pz {fuel:Nat} {t e:TypeId} {cs:List Value} {x:DataW H×List MemPlace} (ht:P.underlying t=some (.slice e)) (h:DataW.trod enc P w base (fun _=>true) held fuel t cs=some x):
  cs=[.slice none 0 0]∨∃ a len cap elems rest,cs=[.slice (some a) len cap]∧x.1 = .slice elems rest∧elems.length+rest.length=cap∧len≤cap∧∃ fuel',∀ i,i<len→∃ l y,w.cells? base (a.add (i*P.cellsOf e)) (P.cellsOf e)=some l∧elems[i]? = some y.1∧DataW.trod enc P w base (fun _=>true) held fuel' e l=some y:=by
 cases fuel with
 |zero=>simp[DataW.trod] at h
 |succ fuel=>
  rcases cs with _ | ⟨c,_ | ⟨c2,r⟩⟩
  ·simp[DataW.trod,ht] at h
  ·cases c with
   |slice a len cap=>
    cases a with
    |none=>
     left
     unfold DataW.trod at h
     rw[ht] at h
     split at h<;>simp_all
    |some a=>
     right
     unfold DataW.trod at h
     rw[ht] at h
     simp only at h
     split at h
     ·rename_i hc
      cases hm:(List.range len).mapM fun i=>(w.cells? base (a.add (i*P.cellsOf e)) (P.cellsOf e)).bind (DataW.trod enc P w base (fun _=>true) held fuel e) with
      |none=>rw[hm] at h;simp at h
      |some ys=>
       rw[hm] at h
       simp only[Option.bind_some,if_true] at h
       cases hr:(List.range (cap-len)).mapM fun j=>(w.cells? base (a.add ((len+j)*P.cellsOf e)) (P.cellsOf e)).bind (DataW.trod enc P w base (fun _=>true) held fuel e) with
       |none=>rw[hr] at h;simp at h
       |some zs=>
        rw[hr] at h
        simp only[Option.map_some,Option.some.injEq] at h
        have e1:=mapM_some_length hm
        have e2:=mapM_some_length hr
        simp only[List.length_range] at e1 e2
        refine⟨a,len,cap,ys.map (·.1),zs.map (·.1),rfl,by rw[←h],?_,hc.2.1,fuel,fun i hi=>?_⟩
        ·have:=hc.2.1
         simp only[List.length_map];omega
        ·obtain⟨y,h1,h2⟩:=CM hm (j:=i) (a:=i) (by simp[hi])
         cases hl:w.cells? base (a.add (i*P.cellsOf e)) (P.cellsOf e) with
         |none=>rw[hl] at h2;simp at h2
         |some l=>rw[hl] at h2;exact⟨l,y,rfl,by simp[h1],h2⟩
     ·simp at h
   | _=>simp[DataW.trod,ht] at h
  ·simp[DataW.trod,ht] at h
theorem wh {α:Type} {p:Nat→α→Prop}:∀ (n:Nat),(∀ i,i<n→∃ a,p i a)→∃ xs:List α,xs.length=n∧∀ i a,xs[i]? = some a→p i a
 |0,_=>⟨[],rfl,fun i a h=>by simp at h⟩
 |n+1,h=>by
  obtain⟨xs,h1,h2⟩:=wh n fun i hi=>h i (by omega)
  obtain⟨a,ha⟩:=h n (by omega)
  refine⟨xs++[a],by simp[h1],fun i b hb=>?_⟩
  by_cases hi:i<n
  ·rw[List.getElem?_append_left (by omega)] at hb;exact h2 i b hb
  ·rw[List.getElem?_append_right (by omega)] at hb
   have:i=n:=by
    rcases Nat.lt_or_ge (i-xs.length) 1 with h |h
    ·omega
    ·rw[List.getElem?_eq_none (by simpa using h)] at hb;simp at hb
   subst this
   simp[h1] at hb
   subst hb;exact ha
end
end Go.Am
set_option linter.unusedSimpArgs false
set_option linter.unusedVariables false
namespace Go.Am
open Go.RowKit
end Go.Am
set_option linter.unusedSimpArgs false
set_option linter.unusedVariables false
namespace Go.Am
open Go.ChangeShapes Go.WideShapes Go.ChangeAt Go.RowKit
inductive Ck where
 |int (k:IntKind)
 |bool
def Ck.mk:Ck→Int→Value
 | .int k,n => .int k n
 | .bool,n => .bool (decide (n≠0))
def Ck.wf:Ck→Int→Prop
 | .int k,n=>(Lit.int k n).wf=true
 | .bool,n=>n=0∨n=1
def qT:List Ck→List Int→List Value
 |k::ks,n::ns=>k.mk n::qT ks ns
 | _,_=>[]
def FB:List Ck→List Int→Prop
 |k::ks,n::ns=>k.wf n∧FB ks ns
 | _,_=>True
theorem kC:∀ {k1:List Ck} {n1:List Int} {k2:List Ck} {n2:List Int},n1.length=k1.length→qT (k1++k2) (n1++n2)=qT k1 n1++qT k2 n2
 | [],[],_,_,_=>rfl
 |k::ks,n::ns,k2,n2,h=>by simp only[List.cons_append,qT,kC (show ns.length=ks.length by simpa using h)]
theorem kD:∀ {k1:List Ck} {n1:List Int} {k2:List Ck} {n2:List Int},n1.length=k1.length→FB k1 n1→FB k2 n2→FB (k1++k2) (n1++n2)
 | [],[],_,_,_,_,w=>w
 |k::ks,n::ns,k2,n2,h,w1,w2=>⟨w1.1,kD (show ns.length=ks.length by simpa using h) w1.2 w2⟩
theorem iN:∀ {ks:List Ck} {ns:List Int},ns.length=ks.length→(qT ks ns).length=ks.length
 | [],[],_=>rfl
 |k::ks,n::ns,h=>by simp only[qT,List.length_cons,iN (show ns.length=ks.length by simpa using h)]
theorem wj {Γ:aT}:∀ {ks:List Ck} {ns:List Int} {x:Value},x∈qT ks ns→ay Γ x x
 |k::ks,n::ns,x,h=>by
  simp only[qT,List.mem_cons] at h
  rcases h with rfl |h
  ·cases k;exact .int _ _;exact .bool _
  ·exact wj h
 | [],[],x,h=>by simp[qT] at h
 | [],_::_,x,h=>by simp[qT] at h
 | _::_,[],x,h=>by simp[qT] at h
mutual
def oL (P:Program):Nat→TypeId→Option (List Ck)
 |0,_=>none
 |f+1,t=>match P.underlying t with
  |some (.int k)=>some [.int k]
  |some .bool=>some [.bool]
  |some (.struct fs)=>match pX P f fs.toList 0 with
   |some ks=>cond (Nat.beq ks.length (P.cellsOf t)) (some ks) none
   |none=>none
  |some (.array n e)=>match oL P f e with
   |some ks=>cond (Nat.beq ks.length (P.cellsOf e)&&Nat.beq (n*ks.length) (P.cellsOf t)) (some (List.replicate n ks).flatten) none
   |none=>none
  | _=>none
def pX (P:Program):Nat→List Field→Nat→Option (List Ck)
 |0,_,_=>none
 | _+1,[],_=>some []
 |f+1,fd::r,off=>cond (Nat.beq fd.offset off) (match oL P f fd.type with
  |some ks=>cond (Nat.beq ks.length (P.cellsOf fd.type)) (match pX P f r (off+ks.length) with
   |some Wi=>some (ks++Wi)
   |none=>none) none
  |none=>none) none
end
section
variable {H:Type} {enc:TypeId×Value→H} {P:Program} {w:World} {base:Nat} {spare:Nat→Bool} {held:Bool}
theorem trod_bool {fuel:Nat} {t:TypeId} {cs:List Value} {x:DataW H×List MemPlace} (ht:P.underlying t=some .bool) (h:DataW.trod enc P w base spare held fuel t cs=some x):∃ b,cs=[.bool b]:=by
 cases fuel with
 |zero=>simp[DataW.trod] at h
 |succ fuel=>
  rcases cs with _ | ⟨c,_ | ⟨c2,r⟩⟩
  ·simp[DataW.trod,ht] at h
  ·cases c<;>simp[DataW.trod,ht] at h
   exact⟨_,rfl⟩
  ·simp[DataW.trod,ht] at h
def Flat (ks:List Ck) (cs:List Value):Prop:=∃ ns,cs=qT ks ns∧ns.length=ks.length∧FB ks ns
theorem pY {k:Nat} {ks:List Ck}:∀ (n:Nat) {cs:List Value},cs.length=n*k→ks.length=k→(∀ i,i<n→Flat ks ((cs.drop (i*k)).take k))→Flat (List.replicate n ks).flatten cs
 |0,cs,hl,hk,h=>by
  have:cs=[]:=List.eq_nil_of_length_eq_zero (by omega)
  subst this
  exact⟨[],rfl,rfl,trivial⟩
 |n+1,cs,hl,hk,h=>by
  obtain⟨n1,e1,l1,w1⟩:=h 0 (by omega)
  rw[Nat.zero_mul,List.drop_zero] at e1
  have hl':(cs.drop k).length=n*k:=by rw[List.length_drop,hl,Nat.succ_mul];omega
  obtain⟨n2,e2,l2,w2⟩:=pY n hl' hk fun i hi=>by
   have:=h (i+1) (by omega)
   rw[List.drop_drop]
   rw[Nat.succ_mul] at this
   rw[Nat.add_comm k];exact this
  rw[List.replicate_succ,List.flatten_cons]
  refine⟨n1++n2,?_,by rw[List.length_append,List.length_append,l1,l2],kD l1 w1 w2⟩
  rw[kC l1,←e1,←e2,List.take_append_drop]
mutual
theorem lR:∀ (f:Nat) (t:TypeId) (ks:List Ck),oL P f t=some ks→∀ (fuel:Nat) (cs:List Value) (x:DataW H×List MemPlace),DataW.trod enc P w base spare held fuel t cs=some x→Flat ks cs
 |0,t,ks,h,_,_,_,_=>by simp[oL] at h
 |f+1,t,ks,h,fuel,cs,x,hx=>by
  rw[oL] at h
  split at h
  ·rename_i k ht
   obtain rfl:=Option.some.inj h
   obtain⟨n,rfl,hw⟩:=trod_int ht hx
   exact⟨[n],rfl,rfl,hw,trivial⟩
  ·rename_i ht
   obtain rfl:=Option.some.inj h
   obtain⟨b,rfl⟩:=trod_bool ht hx
   cases b
   ·exact⟨[0],rfl,rfl,.inl rfl,trivial⟩
   ·exact⟨[1],rfl,rfl,.inr rfl,trivial⟩
  ·rename_i fs ht
   split at h
   ·rename_i ks' hf
    cases hb:Nat.beq ks'.length (P.cellsOf t) with
    |false=>rw[hb] at h;simp at h
    |true=>
     rw[hb] at h
     obtain rfl:=Option.some.inj h
     have hl:=Nat.eq_of_beq_eq_true hb
     obtain⟨x5,fuel',ha⟩:=trod_struct ht hx
     obtain⟨ns,e,l,wf⟩:=oN f fs.toList 0 ks' hf fuel' cs ha
     rw[List.drop_zero,List.take_of_length_le (by omega)] at e
     exact⟨ns,e,l,wf⟩
   ·simp at h
  ·rename_i n e ht
   split at h
   ·rename_i ks' hf
    cases hb:(Nat.beq ks'.length (P.cellsOf e)&&Nat.beq (n*ks'.length) (P.cellsOf t)) with
    |false=>rw[hb] at h;simp at h
    |true=>
     rw[hb] at h
     obtain rfl:=Option.some.inj h
     rw[Bool.and_eq_true] at hb
     have hl:=Nat.eq_of_beq_eq_true hb.1
     have H6:=Nat.eq_of_beq_eq_true hb.2
     obtain⟨x5,fuel',ha⟩:=trod_array ht hx
     refine pY (k:=P.cellsOf e) n (by rw[x5,←H6,hl]) hl fun i hi=>?_
     obtain⟨y,hy⟩:=ha i hi
     exact lR f e ks' hf fuel' _ y hy
   ·simp at h
  ·simp at h
theorem oN:∀ (f:Nat) (r:List Field) (off:Nat) (ks:List Ck),pX P f r off=some ks→∀ (fuel:Nat) (cs:List Value),(∀ fd∈r,∃ y,DataW.trod enc P w base spare held fuel fd.type ((cs.drop fd.offset).take (P.cellsOf fd.type))=some y)→Flat ks ((cs.drop off).take ks.length)
 |0,r,off,ks,h,_,_,_=>by simp[pX] at h
 |f+1,[],off,ks,h,fuel,cs,ha=>by
  rw[pX] at h
  obtain rfl:=Option.some.inj h
  exact⟨[],by simp[qT],rfl,trivial⟩
 |f+1,fd::r,off,ks,h,fuel,cs,ha=>by
  rw[pX] at h
  cases hb:Nat.beq fd.offset off with
  |false=>rw[hb] at h;simp at h
  |true=>
   rw[hb] at h
   simp only[cond_true] at h
   have ho:=Nat.eq_of_beq_eq_true hb
   split at h
   ·rename_i k1 h1
    cases qq:Nat.beq k1.length (P.cellsOf fd.type) with
    |false=>rw[qq] at h;simp at h
    |true=>
     rw[qq] at h
     simp only[cond_true] at h
     have hl:=Nat.eq_of_beq_eq_true qq
     split at h
     ·rename_i k2 h2
      obtain rfl:=Option.some.inj h
      obtain⟨y,hy⟩:=ha fd (by simp)
      obtain⟨n1,e1,l1,w1⟩:=lR f fd.type k1 h1 fuel _ y hy
      obtain⟨n2,e2,l2,w2⟩:=oN f r (off+k1.length) k2 h2 fuel cs fun fd' N3=>ha fd' (by simp[N3])
      rw[ho,←hl] at e1
      refine⟨n1++n2,?_,by rw[List.length_append,List.length_append,l1,l2],kD l1 w1 w2⟩
      rw[kC l1,←e1,←e2,List.length_append,List.take_add,List.drop_drop]
     ·simp at h
   ·simp at h
end
theorem Ar (v0 v1:List View):(ew v0).le (ew (v0++v1)):=by
 refine⟨fun i x h=>?_,fun b n h=>by simp[ew] at h⟩
 simp only[ew] at h ⊢
 cases hi:v0[i]? with
 |none=>rw[hi] at h;simp at h
 |some v=>
  rw[hi] at h
  rw[List.getElem?_append_left (List.getElem?_eq_some_iff.1 hi).1,hi]
  exact h
theorem sZ {v0:List View} {v:View} {w:World} (h0:oK v0 w) (h1:∃ cs el fz,w.heap[v.b]? = some (.cells cs el fz)∧∀ (i:Nat) (x:Value),v.L[i]? = some x→∃ x',cs[v.s+i]? = some x'∧ay (ew (v0++[v])) x x'):oK (v0++[v]) w:=by
 intro k u hk
 rcases Nat.lt_trichotomy k v0.length with q |q |q
 ·rw[List.getElem?_append_left q] at hk
  obtain⟨cs,el,fz,e1,e2⟩:=h0 k u hk
  exact⟨cs,el,fz,e1,fun i x hx=>by obtain⟨x',a,b⟩:=e2 i x hx;exact⟨x',a,b.mono (Ar v0 [v])⟩⟩
 ·subst q
  rw[List.getElem?_append_right (Nat.le_refl _),Nat.sub_self] at hk
  simp only[List.getElem?_cons_zero,Option.some.injEq] at hk
  subst hk
  exact h1
 ·rw[List.getElem?_eq_none (by simp;omega)] at hk;simp at hk
theorem xN {n:Nat} {a:Addr} {l:List Value} (h:w.cells? base a n=some l) {i:Nat} {c:Value} (hc:l[i]? = some c):w.cell? (a.add i)=some c:=by
 unfold World.cells? at h
 split at h
 ·have hl:=mapM_some_length h
  have hi:i<n:=by have:=(List.getElem?_eq_some_iff.1 hc).1;rw[hl,List.length_range] at this;exact this
  have:=mapM_some_get h i i (by simp[hi])
  rw[←hc];exact this
 ·simp at h
def ey (ks:List Ck) (A:List (List Int)):List Value:=A.flatMap (qT ks)
def iO (ks:List Ck) (A:List (List Int)):Prop:=∀ x∈A,x.length=ks.length∧FB ks x
theorem iO.tail {ks:List Ck} {x:List Int} {A:List (List Int)} (h:iO ks (x::A)):iO ks A:=fun y hy=>h y (by simp[hy])
theorem k7 {ks:List Ck}:∀ {A:List (List Int)},iO ks A→(ey ks A).length=A.length*ks.length
 | [],_=>by simp[ey]
 |x::A,h=>by
  have:=k7 h.tail
  unfold ey at*
  rw[List.flatMap_cons,List.length_append,this,iN (h x (by simp)).1,List.length_cons,Nat.succ_mul];omega
theorem oO {ks:List Ck}:∀ {A:List (List Int)} (i:Nat),iO ks A→(ey ks A).drop (i*ks.length)=ey ks (A.drop i)
 |A,0,_=>by simp
 | [],i+1,_=>by simp[ey]
 |x::A,i+1,h=>by
  have e:(ey ks (x::A))=qT ks x++ey ks A:=by simp[ey]
  have hl:=iN (h x (by simp)).1
  rw[e,List.drop_succ_cons,←oO i h.tail,Nat.succ_mul,Nat.add_comm,←List.drop_drop,←hl,List.drop_left]
theorem xO {ks:List Ck} {A:List (List Int)} (h:iO ks A) {i:Nat} {x:List Int} (hx:A[i]? = some x) (j:Nat) (hj:j<ks.length):(ey ks A)[i*ks.length+j]? = (qT ks x)[j]? := by
 have hi:=(List.getElem?_eq_some_iff.1 hx).1
 have hx':=(List.getElem?_eq_some_iff.1 hx).2
 rw[←List.getElem?_drop,oO i h,List.drop_eq_getElem_cons hi,hx']
 unfold ey
 rw[List.flatMap_cons,List.getElem?_append_left (by rw[iN (h x (List.mem_of_getElem? hx)).1];exact hj)]
theorem As {ks:List Ck} (hk:0<ks.length) {A:List (List Int)} (h:iO ks A) {i:Nat} {x:Value} (hx:(ey ks A)[i]? = some x):∃ y,A[i/ks.length]? = some y∧(qT ks y)[i%ks.length]? = some x:=by
 have hi:=(List.getElem?_eq_some_iff.1 hx).1
 rw[k7 h] at hi
 have hq:i/ks.length<A.length:=Nat.div_lt_of_lt_mul (by rw[Nat.mul_comm];exact hi)
 refine⟨A[i/ks.length],List.getElem?_eq_getElem hq,?_⟩
 have hm:=Nat.mod_lt i hk
 rw[←xO h (List.getElem?_eq_getElem hq) _ hm,Nat.mul_comm,Nat.div_add_mod]
 exact hx
def lS (ks:List Ck) (h:PT ak) (q:Nat) (s:Value) (A:List (List Int)):Prop:=
 iO ks A∧((s = .slice none 0 0∧A=[])∨∃ cap,s = .slice (some ⟨q,0,none⟩) A.length cap∧A.length≤cap∧cap<4611686018427387904∧h.get q=some (.cells (PT.ofList .leaf 0 (ey ks A)) true))
theorem lS.keep {ks:List Ck} {h h':PT ak} {q:Nat} {s:Value} {A:List (List Int)} (H:lS ks h q s A) (k:Kept h h'):lS ks h' q s A:=by
 obtain⟨h1,h2⟩:=H
 refine⟨h1,?_⟩
 rcases h2 with e | ⟨cap,e1,e2,e3,e4⟩
 ·exact .inl e
 ·exact .inr ⟨cap,e1,e2,e3,k _ _ e4⟩
set_option maxRecDepth 100000 in
theorem xP {f:Nat} {t e:TypeId} {ks:List Ck} (ht:P.underlying t=some (.slice e)) (hf:oL P f e=some ks) (hk:ks.length=P.cellsOf e) (Wj:0<ks.length) (hb:0<P.bytesOf e)
  {v:Value} {d:DataW H} {p:List MemPlace} {base':Nat} {v0:List View} (R1:oK v0 w) (hok:Value.okWide P w .any base' t v) (h:DataW.Trod enc P w base (fun _=>true) held t v d p) (hz:∀ n∈d.weights P t,n≤reachBytes):
  ∃ (v1:List View) (sl:Value) (A:List (List Int)),oK (v0++v1) w∧ay (ew (v0++v1)) sl v∧A.length≤reachBytes∧lS ks (oJ (v0++v1)) v0.length sl A:=by
 unfold Value.okWide at hok
 rw[ht] at hok
 simp only at hok
 obtain⟨fuel,h⟩:=h
 have hv:∃ a len cap,v = .slice a len cap:=by
  unfold Cell.okWide at hok
  rw[ht] at hok
  cases v<;>first |exact⟨_,_,_,rfl⟩ | (simp[Cell.ok,ht] at hok;done)
 obtain⟨a0,len,cap,rfl⟩:=hv
 rcases pz ht h with e' | ⟨a,len',cap',elems,rest,e',hx,hcap,hle,fuel',hel⟩
 ·simp only[Value.cells,List.cons.injEq,and_true] at e'
  cases e'
  exact⟨[],.slice none 0 0,[],by rw[List.append_nil];exact R1,.nilslice 0 0,by simp,fun x hx=>by simp at hx,.inl ⟨rfl,rfl⟩⟩
 ·simp only[Value.cells,List.cons.injEq,and_true] at e'
  cases e'
  unfold Cell.okWide at hok
  rw[ht] at hok
  simp only[Cell.ok,ht] at hok
  obtain⟨-,-,-,Au,row,cells,nZ,-⟩:=hok
  have FC:∃ c el fz,w.heap[a.block]? = some (.cells c el fz):=by
   unfold World.shape? at nZ
   split at nZ
   ·exact⟨_,_,_,by assumption⟩
   ·simp at nZ
  obtain⟨c,el,fz,hc⟩:=FC
  obtain⟨A,Wk,R2⟩:∃ A:List (List Int),A.length=len∧∀ (i:Nat) x,A[i]? = some x→(∀ (j:Nat) u,(qT ks x)[j]? = some u→c[a.off+(i*ks.length+j)]? = some u)∧x.length=ks.length∧FB ks x:=by
   refine wh len fun i hi=>?_
   obtain⟨l,y,hl,-,hy⟩:=hel i hi
   obtain⟨x,rfl,Wm,Wn⟩:=lR f e ks hf fuel' l y hy
   refine⟨x,fun j u hu=>?_,Wm,Wn⟩
   have hv:=xN hl hu
   unfold World.cell? at hv
   rw[←hk] at hv
   have e0:(a.add (i*ks.length)).add j=⟨a.block,a.off+(i*ks.length+j),none⟩:=by
    obtain⟨ab,ao,N1⟩:=a
    simp only at Au
    subst Au
    unfold Addr.add
    by_cases A5:i*ks.length=0
    ·by_cases hj0:j=0
     ·simp[A5,hj0]
     ·simp[A5,hj0]
    ·by_cases hj0:j=0
     ·simp[A5,hj0]
     ·simp[A5,hj0,Nat.add_assoc]
   rw[e0] at hv
   simp only[hc] at hv
   simpa using hv
  have hsz:cap*P.bytesOf e≤reachBytes:=by
   refine hz _ ?_
   simp only at hx
   rw[hx]
   simp only[DataW.weights,ht]
   rw[hcap]
   exact List.mem_cons_self
  have R3:cap≤reachBytes:=Nat.le_trans (Nat.le_mul_of_pos_right _ hb) hsz
  have hlt: ¬ az≤cap:=by
   have:reachBytes<az:=by decide
   omega
  subst Wk
  have hA:iO ks A:=fun x hx=>by
   obtain⟨i,hi⟩:=List.getElem?_of_mem hx
   exact(R2 i x hi).2
  have Ep:∀ i x,(ey ks A)[i]? = some x→c[a.off+i]? = some x∧ay (ew (v0++[⟨a.block,a.off,ey ks A⟩])) x x:=by
   intro i x hx
   obtain⟨y,h1,h2⟩:=As Wj hA hx
   have h3:=(R2 _ _ h1).1 _ _ h2
   rw[Nat.mul_comm,Nat.div_add_mod] at h3
   exact⟨h3,wj (List.mem_of_getElem? h2)⟩
  refine⟨[⟨a.block,a.off,ey ks A⟩],.slice (some ⟨v0.length,0,none⟩) A.length cap,A,sZ R1 ⟨c,el,fz,hc,fun i x hx=>⟨x,Ep i x hx⟩⟩,?_,by omega,hA,.inr ⟨cap,rfl,by omega,by unfold az at hlt;omega,?_⟩⟩
  ·refine .slice _ _ _ _ _ (.inl ⟨rfl,Au,a.off,?_,rfl⟩) ?_
   ·simp[ew]
   ·unfold aT.cap
    rw[if_neg hlt]
  ·rw[h_,List.getElem?_append_right (Nat.le_refl _),Nat.sub_self];rfl
end
theorem Av {x:Int} (h:(Lit.int .u8 x).wf=true):0≤x∧x<256:=by
 simp only[Lit.wf,Bool.and_eq_true,decide_eq_true_eq] at h
 have e1:IntKind.u8.min=0:=rfl
 have e2:IntKind.u8.max=255:=rfl
 omega
end Go.Am
