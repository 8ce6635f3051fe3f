/-
  A part of the proof: contracts of inner functions.
-/
import Derived.Test.YtbceiadaihphaaaGreatAmY4
import Derived.RowKit3
import Derived.SizedLaws
import Derived.Below
import Derived.WalkKit
import Derived.ProofKit
import Derived.OpenShut
set_option linter.unusedSimpArgs false
set_option linter.unusedVariables false
namespace Go.Am
open Go.RowKit
structure View where
 b:Nat
 s:Nat
 L:List Value
def fH (vs:List View):bu:=⟨fun i=>(vs[i]?).map fun v=>(v.b,v.s),fun _=>none⟩
def ny:List View→PT aj:=fun vs=>PT.ofList .leaf 0 (vs.map fun v => .cells (PT.ofList .leaf 0 v.L) true)
theorem fV (vs:List View) (i:Nat):(ny vs).get i=(vs[i]?).map fun v => .cells (PT.ofList .leaf 0 v.L) true:=by
 unfold ny;rw[PT.bf,List.getElem?_map]
theorem r8 (vs:List View):iG (ny vs) vs.length:=by
 intro i hi
 rw[fV,List.getElem?_eq_none hi];rfl
def nT (vs:List View) (w:World):Prop:=∀ (k:Nat) (v:View),vs[k]? = some v→∃ cs el fz,w.heap[v.b]? = some (.cells cs el fz)∧∀ (i:Nat) (x:Value),v.L[i]? = some x→∃ x',cs[v.s+i]? = some x'∧aF (fH vs) x x'
section
variable {H:Type} {enc:TypeId×Value→H} {P:Program} {w:World} {base:Nat} {spare:Nat→Bool} {held:Bool}
theorem mapM_some {α β:Type} {f:α→Option β}:∀ {l:List α} {ys:List β},l.mapM f=some ys→∀ a∈l,∃ y,f a=some y
 | [],ys,h,a,ha=>by simp at ha
 |x::l,ys,h,a,ha=>by
  rw[List.mapM_cons] at h
  cases hx:f x with
  |none=>rw[hx] at h;simp at h
  |some y=>
   rw[hx] at h
   cases hl:l.mapM f with
   |none=>rw[hl] at h;simp at h
   |some zs=>
    rcases List.mem_cons.1 ha with rfl |ha
    ·exact⟨y,hx⟩
    ·exact mapM_some hl a ha
theorem trod_int {fuel:Nat} {t:TypeId} {k:IntKind} {cs:List Value} {x:DataW H×List MemPlace} (ht:P.underlying t=some (.int k)) (h:DataW.trod enc P w base spare held fuel t cs=some x):∃ n,cs=[.int k n]∧(Lit.int k n).wf=true:=by
 cases fuel with
 |zero=>simp[DataW.trod] at h
 |succ fuel=>
  rcases cs with _ | ⟨c,_ | ⟨c2,r⟩⟩
  ·simp[DataW.trod,ht] at h
  ·cases c<;>simp[DataW.trod,ht] at h
   obtain⟨⟨rfl,h1⟩,_⟩:=h
   exact⟨_,rfl,h1⟩
  ·simp[DataW.trod,ht] at h
theorem trod_struct {fuel:Nat} {t:TypeId} {fs:Array Field} {cs:List Value} {x:DataW H×List MemPlace} (ht:P.underlying t=some (.struct fs)) (h:DataW.trod enc P w base spare held fuel t cs=some x):
  cs.length=P.cellsOf t∧∃ fuel',∀ f∈fs.toList,∃ y,DataW.trod enc P w base spare held fuel' f.type ((cs.drop f.offset).take (P.cellsOf f.type))=some y:=by
 cases fuel with
 |zero=>simp[DataW.trod] at h
 |succ fuel=>
  unfold DataW.trod at h
  rw[ht] at h
  simp only at h
  split at h
  ·rename_i hl
   refine⟨hl,fuel,?_⟩
   cases hm:fs.toList.mapM fun f=>DataW.trod enc P w base spare held fuel f.type ((cs.drop f.offset).take (P.cellsOf f.type)) with
   |none=>rw[hm] at h;simp at h
   |some ys=>exact mapM_some hm
  ·simp at h
theorem trod_array {fuel:Nat} {t e:TypeId} {n:Nat} {cs:List Value} {x:DataW H×List MemPlace} (ht:P.underlying t=some (.array n e)) (h:DataW.trod enc P w base spare held fuel t cs=some x):
  cs.length=P.cellsOf t∧∃ fuel',∀ i,i<n→∃ y,DataW.trod enc P w base spare held fuel' e ((cs.drop (i*P.cellsOf e)).take (P.cellsOf e))=some y:=by
 cases fuel with
 |zero=>simp[DataW.trod] at h
 |succ fuel=>
  unfold DataW.trod at h
  rw[ht] at h
  simp only at h
  split at h
  ·rename_i hl
   refine⟨hl,fuel,fun i hi=>?_⟩
   cases hm:(List.range n).mapM fun i=>DataW.trod enc P w base spare held fuel e ((cs.drop (i*P.cellsOf e)).take (P.cellsOf e)) with
   |none=>rw[hm] at h;simp at h
   |some ys=>exact mapM_some hm i (by simpa using hi)
  ·simp at h
end
end Go.Am
namespace Go.Am
open Go.RowKit
theorem y_ {P:Program} {O:dK} (hO:eU P O) (mZ:P.follows .mixedOrders=true) {f:FuncId} {args args':List Value} {vs:List View} {w:World} (hv:nT vs w) (ha:aH (fH vs) args args')
  (H:b9 P O f args (ny vs) vs.length fun v _ _=>v = .bool true):Calls P f ⟨args'⟩ w fun e w'=>e = .returned (.bool true)∧uG w w'∧Below w.heap.size w w':=by
 have hS:bq (fH vs) w (ny vs) w:=by
  refine⟨.refl _ _,fun _ _=>rfl,?_,?_,?_,?_,?_,?_⟩
  ·intro i B hi
   rw[fV] at hi
   cases hk:vs[i]? with
   |none=>rw[hk] at hi;simp at hi
   |some v=>
    rw[hk] at hi
    obtain rfl:=Option.some.inj hi
    obtain⟨cs,el,fz,h1,h2⟩:=hv i v hk
    refine⟨v.b,v.s,by simp[fH,hk],⟨cs,el,fz,h1,fun h=>by simp at h,fun j x hx=>?_⟩,fun h=>by simp[aj.cB] at h⟩
    rw[PT.bf] at hx
    exact h2 j x hx
  ·intro i j B B' b s b' s' hij hi _ _ _ hw
   rw[fV] at hi
   cases hk:vs[i]? with
   |none=>rw[hk] at hi;simp at hi
   |some v=>rw[hk] at hi;obtain rfl:=Option.some.inj hi;simp[aj.cB] at hw
  ·intro i b s e
   cases hk:vs[i]? with
   |none=>simp[fH,hk] at e
   |some v=>
    simp[fH,hk] at e
    obtain⟨cs,el,fz,h1,_⟩:=hv i v hk
    rw[←e.1]
    exact eS h1
  ·intro b n e;simp[fH] at e
  ·exact⟨vs.length,fun i hi=>by simp[fH,List.getElem?_eq_none hi]⟩
  ·intro i c ro hi
   rw[fV] at hi
   cases hk:vs[i]? with
   |none=>rw[hk] at hi;simp at hi
   |some v=>rw[hk] at hi;have:=aj.cells.inj (Option.some.inj hi);exact⟨v.L,this.1.symm⟩
 obtain⟨k,v,h',n',e,rfl⟩:=H
 have Xe:Wf (S0 (ny vs) vs.length):=by
  intro i hi
  exact r8 vs i hi
 have:=nK (oJ hO mZ k).1 (pI k) e (Nat.zero_le _) Xe hS (fun i b hb=>hb) ha (fun i hi _=>by simp[fH,List.getElem?_eq_none (show vs.length≤i from hi)]) none
 have:=callsIn_wide.1 (show CallsIn Fence.wide 0 P f ⟨args'⟩ w _ from this)
 refine Calls.mono this ?_
 rintro e w' ⟨aS,v',H',rfl,hex,Ny⟩
 cases Ny
 have hb:=hex.rel.below
 refine⟨rfl,⟨⟨hb.os,hb.output,fun i hi=>?_⟩,hex.rel.fz,hb.size⟩,hb⟩
 rw[hb.block i hi]
 cases hw:w.heap[i]? with
 |none=>simp[hw]
 |some o=>cases o<;>simp[hw]
section
variable {H:Type} {enc:TypeId×Value→H} {P:Program} {w:World} {base:Nat} {spare:Nat→Bool} {held:Bool}
theorem qM {α β:Type} {f:α→Option β} {l:List α} {ys:List β} (h:l.mapM f=some ys) {j:Nat} {a:α} (ha:l[j]? = some a):∃ y,ys[j]? = some y∧f a=some y:=by
 have h1:=mapM_some_get h j a ha
 have h2:=mapM_some_length h
 have h3:j<ys.length:=by
  rw[h2]
  exact(List.getElem?_eq_some_iff.1 ha).1
 exact⟨ys[j],List.getElem?_eq_getElem h3,by rw[h1,List.getElem?_eq_getElem h3]⟩
theorem tg {fuel:Nat} {t e:TypeId} {cs:List Value} {x:DataW H×List MemPlace} (ht:P.underlying t=some (.slice e)) (h:DataW.trod enc P w base (fun _=>true) held fuel t cs=some x):
  cs=[.slice none 0 0]∨∃ a len cap elems rest,cs=[.slice (some a) len cap]∧x.1 = .slice elems rest∧elems.length+rest.length=cap∧len≤cap∧∃ fuel',∀ i,i<len→∃ l y,w.cells? base (a.add (i*P.cellsOf e)) (P.cellsOf e)=some l∧elems[i]? = some y.1∧DataW.trod enc P w base (fun _=>true) held fuel' e l=some y:=by
 cases fuel with
 |zero=>simp[DataW.trod] at h
 |succ fuel=>
  rcases cs with _ | ⟨c,_ | ⟨c2,r⟩⟩
  ·simp[DataW.trod,ht] at h
  ·cases c with
   |slice a len cap=>
    cases a with
    |none=>
     left
     unfold DataW.trod at h
     rw[ht] at h
     split at h<;>simp_all
    |some a=>
     right
     unfold DataW.trod at h
     rw[ht] at h
     simp only at h
     split at h
     ·rename_i hc
      cases hm:(List.range len).mapM fun i=>(w.cells? base (a.add (i*P.cellsOf e)) (P.cellsOf e)).bind (DataW.trod enc P w base (fun _=>true) held fuel e) with
      |none=>rw[hm] at h;simp at h
      |some ys=>
       rw[hm] at h
       simp only[Option.bind_some,if_true] at h
       cases hr:(List.range (cap-len)).mapM fun j=>(w.cells? base (a.add ((len+j)*P.cellsOf e)) (P.cellsOf e)).bind (DataW.trod enc P w base (fun _=>true) held fuel e) with
       |none=>rw[hr] at h;simp at h
       |some zs=>
        rw[hr] at h
        simp only[Option.map_some,Option.some.injEq] at h
        have e1:=mapM_some_length hm
        have e2:=mapM_some_length hr
        simp only[List.length_range] at e1 e2
        refine⟨a,len,cap,ys.map (·.1),zs.map (·.1),rfl,by rw[←h],?_,hc.2.1,fuel,fun i hi=>?_⟩
        ·have:=hc.2.1
         simp only[List.length_map];omega
        ·obtain⟨y,h1,h2⟩:=qM hm (j:=i) (a:=i) (by simp[hi])
         cases hl:w.cells? base (a.add (i*P.cellsOf e)) (P.cellsOf e) with
         |none=>rw[hl] at h2;simp at h2
         |some l=>rw[hl] at h2;exact⟨l,y,rfl,by simp[h1],h2⟩
     ·simp at h
   | _=>simp[DataW.trod,ht] at h
  ·simp[DataW.trod,ht] at h
theorem oL {α:Type} {p:Nat→α→Prop}:∀ (n:Nat),(∀ i,i<n→∃ a,p i a)→∃ xs:List α,xs.length=n∧∀ i a,xs[i]? = some a→p i a
 |0,_=>⟨[],rfl,fun i a h=>by simp at h⟩
 |n+1,h=>by
  obtain⟨xs,h1,h2⟩:=oL n fun i hi=>h i (by omega)
  obtain⟨a,ha⟩:=h n (by omega)
  refine⟨xs++[a],by simp[h1],fun i b hb=>?_⟩
  by_cases hi:i<n
  ·rw[List.getElem?_append_left (by omega)] at hb;exact h2 i b hb
  ·rw[List.getElem?_append_right (by omega)] at hb
   have:i=n:=by
    rcases Nat.lt_or_ge (i-xs.length) 1 with h |h
    ·omega
    ·rw[List.getElem?_eq_none (by simpa using h)] at hb;simp at hb
   subst this
   simp[h1] at hb
   subst hb;exact ha
theorem cells?_one {a:Addr} {l:List Value} (h:w.cells? base a 1=some l):∃ c,l=[c]∧w.cell? (a.add 0)=some c:=by
 unfold World.cells? at h
 split at h
 ·simp only[List.range_succ,List.range_zero,List.nil_append,List.mapM_cons,List.mapM_nil] at h
  cases hc:w.cell? (a.add 0) with
  |none=>rw[hc] at h;simp at h
  |some c=>rw[hc] at h;simp at h;exact⟨c,h.symm,rfl⟩
 ·simp at h
end
end Go.Am
namespace Go.Am
open Go.RowKit
end Go.Am
namespace Go.Am
open Go.ChangeShapes Go.WideShapes Go.ChangeAt Go.RowKit
inductive Ck where
 |int (k:IntKind)
 |bool
def Ck.mk:Ck→Int→Value
 | .int k,n => .int k n
 | .bool,n => .bool (decide (n≠0))
def Ck.wf:Ck→Int→Prop
 | .int k,n=>(Lit.int k n).wf=true
 | .bool,n=>n=0∨n=1
def qB:List Ck→List Int→List Value
 |k::ks,n::ns=>k.mk n::qB ks ns
 | _,_=>[]
def HT:List Ck→List Int→Prop
 |k::ks,n::ns=>k.wf n∧HT ks ns
 | _,_=>True
theorem nU:∀ {k1:List Ck} {n1:List Int} {k2:List Ck} {n2:List Int},n1.length=k1.length→qB (k1++k2) (n1++n2)=qB k1 n1++qB k2 n2
 | [],[],_,_,_=>rfl
 |k::ks,n::ns,k2,n2,h=>by simp only[List.cons_append,qB,nU (show ns.length=ks.length by simpa using h)]
theorem nV:∀ {k1:List Ck} {n1:List Int} {k2:List Ck} {n2:List Int},n1.length=k1.length→HT k1 n1→HT k2 n2→HT (k1++k2) (n1++n2)
 | [],[],_,_,_,_,w=>w
 |k::ks,n::ns,k2,n2,h,w1,w2=>⟨w1.1,nV (show ns.length=ks.length by simpa using h) w1.2 w2⟩
theorem kF:∀ {ks:List Ck} {ns:List Int},ns.length=ks.length→(qB ks ns).length=ks.length
 | [],[],_=>rfl
 |k::ks,n::ns,h=>by simp only[qB,List.length_cons,kF (show ns.length=ks.length by simpa using h)]
theorem Af {Γ:bu}:∀ (ks:List Ck) (ns:List Int),aH Γ (qB ks ns) (qB ks ns)
 | [],[] => .nil
 | [],_::_ => .nil
 | _::_,[] => .nil
 |k::ks,n::ns => .cons _ _ _ _ (by cases k;exact .int _ _;exact .bool _) (Af ks ns)
theorem uR {Γ:bu}:∀ {ks:List Ck} {ns:List Int} {x:Value},x∈qB ks ns→aF Γ x x
 |k::ks,n::ns,x,h=>by
  simp only[qB,List.mem_cons] at h
  rcases h with rfl |h
  ·cases k;exact .int _ _;exact .bool _
  ·exact uR h
 | [],[],x,h=>by simp[qB] at h
 | [],_::_,x,h=>by simp[qB] at h
 | _::_,[],x,h=>by simp[qB] at h
mutual
def jS (P:Program):Nat→TypeId→Option (List Ck)
 |0,_=>none
 |f+1,t=>match P.underlying t with
  |some (.int k)=>some [.int k]
  |some .bool=>some [.bool]
  |some (.struct fs)=>match tW P f fs.toList 0 with
   |some ks=>cond (Nat.beq ks.length (P.cellsOf t)) (some ks) none
   |none=>none
  |some (.array n e)=>match jS P f e with
   |some ks=>cond (Nat.beq ks.length (P.cellsOf e)&&Nat.beq (n*ks.length) (P.cellsOf t)) (some (List.replicate n ks).flatten) none
   |none=>none
  | _=>none
def tW (P:Program):Nat→List Field→Nat→Option (List Ck)
 |0,_,_=>none
 | _+1,[],_=>some []
 |f+1,fd::r,off=>cond (Nat.beq fd.offset off) (match jS P f fd.type with
  |some ks=>cond (Nat.beq ks.length (P.cellsOf fd.type)) (match tW P f r (off+ks.length) with
   |some ks2=>some (ks++ks2)
   |none=>none) none
  |none=>none) none
end
section
variable {H:Type} {enc:TypeId×Value→H} {P:Program} {w:World} {base:Nat} {spare:Nat→Bool} {held:Bool}
theorem trod_bool {fuel:Nat} {t:TypeId} {cs:List Value} {x:DataW H×List MemPlace} (ht:P.underlying t=some .bool) (h:DataW.trod enc P w base spare held fuel t cs=some x):∃ b,cs=[.bool b]:=by
 cases fuel with
 |zero=>simp[DataW.trod] at h
 |succ fuel=>
  rcases cs with _ | ⟨c,_ | ⟨c2,r⟩⟩
  ·simp[DataW.trod,ht] at h
  ·cases c<;>simp[DataW.trod,ht] at h
   exact⟨_,rfl⟩
  ·simp[DataW.trod,ht] at h
def Flat (ks:List Ck) (cs:List Value):Prop:=∃ ns,cs=qB ks ns∧ns.length=ks.length∧HT ks ns
theorem tX {k:Nat} {ks:List Ck}:∀ (n:Nat) {cs:List Value},cs.length=n*k→ks.length=k→(∀ i,i<n→Flat ks ((cs.drop (i*k)).take k))→Flat (List.replicate n ks).flatten cs
 |0,cs,hl,hk,h=>by
  have:cs=[]:=List.eq_nil_of_length_eq_zero (by omega)
  subst this
  exact⟨[],rfl,rfl,trivial⟩
 |n+1,cs,hl,hk,h=>by
  obtain⟨n1,e1,l1,w1⟩:=h 0 (by omega)
  rw[Nat.zero_mul,List.drop_zero] at e1
  have hl':(cs.drop k).length=n*k:=by rw[List.length_drop,hl,Nat.succ_mul];omega
  obtain⟨n2,e2,l2,w2⟩:=tX n hl' hk fun i hi=>by
   have:=h (i+1) (by omega)
   rw[List.drop_drop]
   rw[Nat.succ_mul] at this
   rw[Nat.add_comm k];exact this
  rw[List.replicate_succ,List.flatten_cons]
  refine⟨n1++n2,?_,by rw[List.length_append,List.length_append,l1,l2],nV l1 w1 w2⟩
  rw[nU l1,←e1,←e2,List.take_append_drop]
mutual
theorem jT:∀ (f:Nat) (t:TypeId) (ks:List Ck),jS P f t=some ks→∀ (fuel:Nat) (cs:List Value) (x:DataW H×List MemPlace),DataW.trod enc P w base spare held fuel t cs=some x→Flat ks cs
 |0,t,ks,h,_,_,_,_=>by simp[jS] at h
 |f+1,t,ks,h,fuel,cs,x,hx=>by
  rw[jS] at h
  split at h
  ·rename_i k ht
   obtain rfl:=Option.some.inj h
   obtain⟨n,rfl,hw⟩:=trod_int ht hx
   exact⟨[n],rfl,rfl,hw,trivial⟩
  ·rename_i ht
   obtain rfl:=Option.some.inj h
   obtain⟨b,rfl⟩:=trod_bool ht hx
   cases b
   ·exact⟨[0],rfl,rfl,.inl rfl,trivial⟩
   ·exact⟨[1],rfl,rfl,.inr rfl,trivial⟩
  ·rename_i fs ht
   split at h
   ·rename_i ks' hf
    cases hb:Nat.beq ks'.length (P.cellsOf t) with
    |false=>rw[hb] at h;simp at h
    |true=>
     rw[hb] at h
     obtain rfl:=Option.some.inj h
     have hl:=Nat.eq_of_beq_eq_true hb
     obtain⟨zW,fuel',ha⟩:=trod_struct ht hx
     obtain⟨ns,e,l,wf⟩:=r9 f fs.toList 0 ks' hf fuel' cs ha
     rw[List.drop_zero,List.take_of_length_le (by omega)] at e
     exact⟨ns,e,l,wf⟩
   ·simp at h
  ·rename_i n e ht
   split at h
   ·rename_i ks' hf
    cases hb:(Nat.beq ks'.length (P.cellsOf e)&&Nat.beq (n*ks'.length) (P.cellsOf t)) with
    |false=>rw[hb] at h;simp at h
    |true=>
     rw[hb] at h
     obtain rfl:=Option.some.inj h
     rw[Bool.and_eq_true] at hb
     have hl:=Nat.eq_of_beq_eq_true hb.1
     have Nt:=Nat.eq_of_beq_eq_true hb.2
     obtain⟨zW,fuel',ha⟩:=trod_array ht hx
     refine tX (k:=P.cellsOf e) n (by rw[zW,←Nt,hl]) hl fun i hi=>?_
     obtain⟨y,hy⟩:=ha i hi
     exact jT f e ks' hf fuel' _ y hy
   ·simp at h
  ·simp at h
theorem r9:∀ (f:Nat) (r:List Field) (off:Nat) (ks:List Ck),tW P f r off=some ks→∀ (fuel:Nat) (cs:List Value),(∀ fd∈r,∃ y,DataW.trod enc P w base spare held fuel fd.type ((cs.drop fd.offset).take (P.cellsOf fd.type))=some y)→Flat ks ((cs.drop off).take ks.length)
 |0,r,off,ks,h,_,_,_=>by simp[tW] at h
 |f+1,[],off,ks,h,fuel,cs,ha=>by
  rw[tW] at h
  obtain rfl:=Option.some.inj h
  exact⟨[],by simp[qB],rfl,trivial⟩
 |f+1,fd::r,off,ks,h,fuel,cs,ha=>by
  rw[tW] at h
  cases hb:Nat.beq fd.offset off with
  |false=>rw[hb] at h;simp at h
  |true=>
   rw[hb] at h
   simp only[cond_true] at h
   have ho:=Nat.eq_of_beq_eq_true hb
   split at h
   ·rename_i k1 h1
    cases CF:Nat.beq k1.length (P.cellsOf fd.type) with
    |false=>rw[CF] at h;simp at h
    |true=>
     rw[CF] at h
     simp only[cond_true] at h
     have hl:=Nat.eq_of_beq_eq_true CF
     split at h
     ·rename_i k2 h2
      obtain rfl:=Option.some.inj h
      obtain⟨y,hy⟩:=ha fd (by simp)
      obtain⟨n1,e1,l1,w1⟩:=jT f fd.type k1 h1 fuel _ y hy
      obtain⟨n2,e2,l2,w2⟩:=r9 f r (off+k1.length) k2 h2 fuel cs fun fd' WK=>ha fd' (by simp[WK])
      rw[ho,←hl] at e1
      refine⟨n1++n2,?_,by rw[List.length_append,List.length_append,l1,l2],nV l1 w1 w2⟩
      rw[nU l1,←e1,←e2,List.length_append,List.take_add,List.drop_drop]
     ·simp at h
   ·simp at h
end
theorem BK {f:Nat} {t:TypeId} {ks:List Ck} {v:Value} {d:DataW H} {p:List MemPlace} (hf:jS P f t=some ks) (h:DataW.Trod enc P w base spare held t v d p):Flat ks v.cells.toList:=by
 obtain⟨fuel,h⟩:=h
 exact jT f t ks hf fuel _ _ h
theorem EN {base':Nat} {f:Nat} {t:TypeId} {ks:List Ck} {u:TypeDesc} {v:Value} {d:DataW H} {p:List MemPlace} (ht:P.underlying t=some u) (hu:isAgg u=true) (hf:jS P f t=some ks) (hok:Value.okWide P w .any base' t v) (h:DataW.Trod enc P w base spare held t v d p):∃ ns,v = .agg ⟨qB ks ns⟩∧ns.length=ks.length∧HT ks ns:=by
 have hfl:=BK hf h
 unfold Value.okWide at hok
 rw[ht] at hok
 have hv:∃ cs,v = .agg cs:=by
  cases u<;>first | (obtain⟨cs,e,_⟩:=hok;exact⟨cs,e⟩) |simp[isAgg] at hu
 obtain⟨⟨cs⟩,rfl⟩:=hv
 obtain⟨ns,e,l,wf⟩:=hfl
 simp only[Value.cells] at e
 exact⟨ns,by rw[e],l,wf⟩
theorem r_ (v0 v1:List View):(fH v0).le (fH (v0++v1)):=by
 refine⟨fun i x h=>?_,fun b n h=>by simp[fH] at h⟩
 simp only[fH] at h ⊢
 cases hi:v0[i]? with
 |none=>rw[hi] at h;simp at h
 |some v=>
  rw[hi] at h
  rw[List.getElem?_append_left (List.getElem?_eq_some_iff.1 hi).1,hi]
  exact h
theorem za (v0 v1:List View):Kept (ny v0) (ny (v0++v1)):=by
 intro i B h
 rw[fV] at h ⊢
 cases hi:v0[i]? with
 |none=>rw[hi] at h;simp at h
 |some v=>
  rw[hi] at h
  rw[List.getElem?_append_left (List.getElem?_eq_some_iff.1 hi).1,hi]
  exact h
theorem wM {v0:List View} {v:View} {w:World} (h0:nT v0 w) (h1:∃ cs el fz,w.heap[v.b]? = some (.cells cs el fz)∧∀ (i:Nat) (x:Value),v.L[i]? = some x→∃ x',cs[v.s+i]? = some x'∧aF (fH (v0++[v])) x x'):nT (v0++[v]) w:=by
 intro k u hk
 rcases Nat.lt_trichotomy k v0.length with q |q |q
 ·rw[List.getElem?_append_left q] at hk
  obtain⟨cs,el,fz,e1,e2⟩:=h0 k u hk
  exact⟨cs,el,fz,e1,fun i x hx=>by obtain⟨x',a,b⟩:=e2 i x hx;exact⟨x',a,b.mono (r_ v0 [v])⟩⟩
 ·subst q
  rw[List.getElem?_append_right (Nat.le_refl _),Nat.sub_self] at hk
  simp only[List.getElem?_cons_zero,Option.some.injEq] at hk
  subst hk
  exact h1
 ·rw[List.getElem?_eq_none (by simp;omega)] at hk;simp at hk
theorem pP {n:Nat} {a:Addr} {l:List Value} (h:w.cells? base a n=some l) {i:Nat} {c:Value} (hc:l[i]? = some c):w.cell? (a.add i)=some c:=by
 unfold World.cells? at h
 split at h
 ·have hl:=mapM_some_length h
  have hi:i<n:=by have:=(List.getElem?_eq_some_iff.1 hc).1;rw[hl,List.length_range] at this;exact this
  have:=mapM_some_get h i i (by simp[hi])
  rw[←hc];exact this
 ·simp at h
def cH (ks:List Ck) (A:List (List Int)):List Value:=A.flatMap (qB ks)
def fC (ks:List Ck) (A:List (List Int)):Prop:=∀ x∈A,x.length=ks.length∧HT ks x
theorem fC.tail {ks:List Ck} {x:List Int} {A:List (List Int)} (h:fC ks (x::A)):fC ks A:=fun y hy=>h y (by simp[hy])
theorem oN {ks:List Ck}:∀ {A:List (List Int)},fC ks A→(cH ks A).length=A.length*ks.length
 | [],_=>by simp[cH]
 |x::A,h=>by
  have:=oN h.tail
  unfold cH at*
  rw[List.flatMap_cons,List.length_append,this,kF (h x (by simp)).1,List.length_cons,Nat.succ_mul];omega
theorem sj {ks:List Ck}:∀ {A:List (List Int)} (i:Nat),fC ks A→(cH ks A).drop (i*ks.length)=cH ks (A.drop i)
 |A,0,_=>by simp
 | [],i+1,_=>by simp[cH]
 |x::A,i+1,h=>by
  have e:(cH ks (x::A))=qB ks x++cH ks A:=by simp[cH]
  have hl:=kF (h x (by simp)).1
  rw[e,List.drop_succ_cons,←sj i h.tail,Nat.succ_mul,Nat.add_comm,←List.drop_drop,←hl,List.drop_left]
theorem pQ {ks:List Ck} {A:List (List Int)} (h:fC ks A) {i:Nat} {x:List Int} (hx:A[i]? = some x) (j:Nat) (hj:j<ks.length):(cH ks A)[i*ks.length+j]? = (qB ks x)[j]? := by
 have hi:=(List.getElem?_eq_some_iff.1 hx).1
 have hx':=(List.getElem?_eq_some_iff.1 hx).2
 rw[←List.getElem?_drop,sj i h,List.drop_eq_getElem_cons hi,hx']
 unfold cH
 rw[List.flatMap_cons,List.getElem?_append_left (by rw[kF (h x (List.mem_of_getElem? hx)).1];exact hj)]
theorem sk {ks:List Ck} (hk:0<ks.length) {A:List (List Int)} (h:fC ks A) {i:Nat} {x:Value} (hx:(cH ks A)[i]? = some x):∃ y,A[i/ks.length]? = some y∧(qB ks y)[i%ks.length]? = some x:=by
 have hi:=(List.getElem?_eq_some_iff.1 hx).1
 rw[oN h] at hi
 have hq:i/ks.length<A.length:=Nat.div_lt_of_lt_mul (by rw[Nat.mul_comm];exact hi)
 refine⟨A[i/ks.length],List.getElem?_eq_getElem hq,?_⟩
 have hm:=Nat.mod_lt i hk
 rw[←pQ h (List.getElem?_eq_getElem hq) _ hm,Nat.mul_comm,Nat.div_add_mod]
 exact hx
def pR (ks:List Ck) (h:PT aj) (q:Nat) (s:Value) (A:List (List Int)):Prop:=
 fC ks A∧((s = .slice none 0 0∧A=[])∨∃ cap,s = .slice (some ⟨q,0,none⟩) A.length cap∧A.length≤cap∧cap<4611686018427387904∧h.get q=some (.cells (PT.ofList .leaf 0 (cH ks A)) true))
theorem pR.keep {ks:List Ck} {h h':PT aj} {q:Nat} {s:Value} {A:List (List Int)} (H:pR ks h q s A) (k:Kept h h'):pR ks h' q s A:=by
 obtain⟨h1,h2⟩:=H
 refine⟨h1,?_⟩
 rcases h2 with e | ⟨cap,e1,e2,e3,e4⟩
 ·exact .inl e
 ·exact .inr ⟨cap,e1,e2,e3,k _ _ e4⟩
set_option maxRecDepth 100000 in
theorem BL {f:Nat} {t e:TypeId} {ks:List Ck} (ht:P.underlying t=some (.slice e)) (hf:jS P f e=some ks) (hk:ks.length=P.cellsOf e) (J7:0<ks.length) (hb:0<P.bytesOf e)
  {v:Value} {d:DataW H} {p:List MemPlace} {base':Nat} {v0:List View} (Q6:nT v0 w) (hok:Value.okWide P w .any base' t v) (h:DataW.Trod enc P w base (fun _=>true) held t v d p) (hz:∀ n∈d.weights P t,n≤reachBytes):
  ∃ (v1:List View) (sl:Value) (A:List (List Int)),nT (v0++v1) w∧aF (fH (v0++v1)) sl v∧A.length≤reachBytes∧pR ks (ny (v0++v1)) v0.length sl A:=by
 unfold Value.okWide at hok
 rw[ht] at hok
 simp only at hok
 obtain⟨fuel,h⟩:=h
 have hv:∃ a len cap,v = .slice a len cap:=by
  unfold Cell.okWide at hok
  rw[ht] at hok
  cases v<;>first |exact⟨_,_,_,rfl⟩ | (simp[Cell.ok,ht] at hok;done)
 obtain⟨a0,len,cap,rfl⟩:=hv
 rcases tg ht h with e' | ⟨a,len',cap',elems,rest,e',hx,hcap,hle,fuel',hel⟩
 ·simp only[Value.cells,List.cons.injEq,and_true] at e'
  cases e'
  exact⟨[],.slice none 0 0,[],by rw[List.append_nil];exact Q6,.nilslice 0 0,by simp,fun x hx=>by simp at hx,.inl ⟨rfl,rfl⟩⟩
 ·simp only[Value.cells,List.cons.injEq,and_true] at e'
  cases e'
  unfold Cell.okWide at hok
  rw[ht] at hok
  simp only[Cell.ok,ht] at hok
  obtain⟨-,-,-,nA,row,cells,kr,-⟩:=hok
  have zb:∃ c el fz,w.heap[a.block]? = some (.cells c el fz):=by
   unfold World.shape? at kr
   split at kr
   ·exact⟨_,_,_,by assumption⟩
   ·simp at kr
  obtain⟨c,el,fz,hc⟩:=zb
  obtain⟨A,Xq,Q7⟩:∃ A:List (List Int),A.length=len∧∀ (i:Nat) x,A[i]? = some x→(∀ (j:Nat) u,(qB ks x)[j]? = some u→c[a.off+(i*ks.length+j)]? = some u)∧x.length=ks.length∧HT ks x:=by
   refine oL len fun i hi=>?_
   obtain⟨l,y,hl,-,hy⟩:=hel i hi
   obtain⟨x,rfl,HU,Q8⟩:=jT f e ks hf fuel' l y hy
   refine⟨x,fun j u hu=>?_,HU,Q8⟩
   have hv:=pP hl hu
   unfold World.cell? at hv
   rw[←hk] at hv
   have e0:(a.add (i*ks.length)).add j=⟨a.block,a.off+(i*ks.length+j),none⟩:=by
    obtain⟨ab,ao,Pt⟩:=a
    simp only at nA
    subst nA
    unfold Addr.add
    by_cases Da:i*ks.length=0
    ·by_cases hj0:j=0
     ·simp[Da,hj0]
     ·simp[Da,hj0]
    ·by_cases hj0:j=0
     ·simp[Da,hj0]
     ·simp[Da,hj0,Nat.add_assoc]
   rw[e0] at hv
   simp only[hc] at hv
   simpa using hv
  have hsz:cap*P.bytesOf e≤reachBytes:=by
   refine hz _ ?_
   simp only at hx
   rw[hx]
   simp only[DataW.weights,ht]
   rw[hcap]
   exact List.mem_cons_self
  have Ag:cap≤reachBytes:=Nat.le_trans (Nat.le_mul_of_pos_right _ hb) hsz
  have hlt: ¬ aB≤cap:=by
   have:reachBytes<aB:=by decide
   omega
  subst Xq
  have hA:fC ks A:=fun x hx=>by
   obtain⟨i,hi⟩:=List.getElem?_of_mem hx
   exact(Q7 i x hi).2
  have KB:∀ i x,(cH ks A)[i]? = some x→c[a.off+i]? = some x∧aF (fH (v0++[⟨a.block,a.off,cH ks A⟩])) x x:=by
   intro i x hx
   obtain⟨y,h1,h2⟩:=sk J7 hA hx
   have h3:=(Q7 _ _ h1).1 _ _ h2
   rw[Nat.mul_comm,Nat.div_add_mod] at h3
   exact⟨h3,uR (List.mem_of_getElem? h2)⟩
  refine⟨[⟨a.block,a.off,cH ks A⟩],.slice (some ⟨v0.length,0,none⟩) A.length cap,A,wM Q6 ⟨c,el,fz,hc,fun i x hx=>⟨x,KB i x hx⟩⟩,?_,by omega,hA,.inr ⟨cap,rfl,by omega,by unfold aB at hlt;omega,?_⟩⟩
  ·refine .slice _ _ _ _ _ (.inl ⟨rfl,nA,a.off,?_,rfl⟩) ?_
   ·simp[fH]
   ·unfold bu.cap
    rw[if_neg hlt]
  ·rw[fV,List.getElem?_append_right (Nat.le_refl _),Nat.sub_self];rfl
end
theorem wN {x:Int} (h:(Lit.int .u8 x).wf=true):0≤x∧x<256:=by
 simp only[Lit.wf,Bool.and_eq_true,decide_eq_true_eq] at h
 have e1:IntKind.u8.min=0:=rfl
 have e2:IntKind.u8.max=255:=rfl
 omega
theorem BM {x:Int} (h:(Lit.int .u64 x).wf=true):0≤x∧x<18446744073709551616:=by
 simp only[Lit.wf,Bool.and_eq_true,decide_eq_true_eq] at h
 have e1:IntKind.u64.min=0:=rfl
 have e2:IntKind.u64.max=18446744073709551615:=rfl
 omega
end Go.Am
