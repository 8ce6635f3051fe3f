/-
  The abstract machine: when an abstract heap stands for the model's; what each access keeps; the simulation's word and its rules.
-/
import Derived.Test.YtbceiadaihphaaaGreatAmC
set_option linter.unusedSimpArgs false
set_option linter.unusedVariables false
namespace Go.Am
open Go.RowKit
inductive bL (Γ:bu):List (Value×Value×Nat)→List MapEntry→Prop
 |nil:bL Γ [] []
 |cons (p:Value×Value×Nat) (e:MapEntry) (l:List (Value×Value×Nat)) (l':List MapEntry) (hk:aF Γ p.1 e.key) (hv:aF Γ p.2.1 e.val) (hb:p.2.2=e.born) (t:bL Γ l l'):bL Γ (p::l) (e::l')
theorem bL.mono {Γ aS:bu} (h:Γ.le aS):∀ {l:List (Value×Value×Nat)} {l':List MapEntry},bL Γ l l'→bL aS l l'
 | _,_,.nil => .nil
 | _,_,.cons p e _ _ hk hv hb t => .cons p e _ _ (hk.mono h) (hv.mono h) hb (bL.mono h t)
theorem bL.length {Γ:bu}:∀ {l:List (Value×Value×Nat)} {l':List MapEntry},bL Γ l l'→l'.length=l.length
 | _,_,.nil=>rfl
 | _,_,.cons _ _ _ _ _ _ _ t=>by simp[bL.length t]
theorem bL.append {Γ:bu}:∀ {l m:List (Value×Value×Nat)} {l' m':List MapEntry},bL Γ l l'→bL Γ m m'→bL Γ (l++m) (l'++m')
 | _,_,_,_,.nil,k=>k
 | _,_,_,_,.cons p e _ _ hk hv hb t,k => .cons p e _ _ hk hv hb (bL.append t k)
def aj.cB:aj→Prop
 | .cells _ ro=>ro=false
 | _=>True
def kg (Γ:bu) (w:World):aj→Nat→Nat→Prop
 | .cells c ro,b,s=>∃ cs el fz,w.heap[b]? = some (.cells cs el fz)∧(ro=false→fz=(0,0))∧∀ i v,c.get i=some v→∃ v',cs[s+i]? = some v'∧aF Γ v v'
 | .map es clk,b,s=>s=0∧∃ bh,w.heap[b]? = some (.map bh clk)∧bL Γ es bh.toList
 | .iter m since seen stepped,b,s=>s=0∧∃ m',w.heap[b]? = some (.mapIter m' since ⟨seen⟩ stepped)∧(m=none→m'=none)∧∀ r,m=some r→∃ r',m'=some r'∧Γ.bW r=some (r',0)
 | .loop st ig tm ps as bd,b,s=>s=0∧∃ L:Loop,w.heap[b]? = some (.loop L)∧L.state=st∧L.pending=ig∧fE Γ tm L.tmps∧L.params.toList=ps∧L.assign=as∧L.body=bd
 | .deferred,b,s=>s=0∧w.heap[b]? = some (.deferred (some []))
theorem kg.mono {Γ aS:bu} (h:Γ.le aS) {w:World} {B:aj} {b s:Nat} (k:kg Γ w B b s):kg aS w B b s:=by
 cases B with
 |cells c ro=>obtain⟨cs,el,fz,h1,h2,h3⟩:=k;exact⟨cs,el,fz,h1,h2,fun i v e=>let ⟨v',e',r⟩:=h3 i v e;⟨v',e',r.mono h⟩⟩
 |map es clk=>obtain⟨h0,bh,h1,h2⟩:=k;exact⟨h0,bh,h1,h2.mono h⟩
 |iter m since seen stepped=>obtain⟨h0,m',h1,h2,h3⟩:=k;exact⟨h0,m',h1,h2,fun r e=>let ⟨r',e',hb⟩:=h3 r e;⟨r',e',h.bW _ _ hb⟩⟩
 |loop st ig tm ps as bd=>obtain⟨h0,L,h1,h2,h3,h4,h5⟩:=k;exact⟨h0,L,h1,h2,h3,h4.mono h,h5⟩
 |deferred=>exact k
theorem kg.world {Γ:bu} {w w':World} {B:aj} {b s:Nat} (k:kg Γ w B b s) (h:w'.heap[b]? = w.heap[b]?):kg Γ w' B b s:=by
 cases B with
 |cells c ro=>obtain⟨cs,el,fz,h1,h2,h3⟩:=k;exact⟨cs,el,fz,h.trans h1,h2,h3⟩
 |map es clk=>obtain⟨h0,bh,h1,h2⟩:=k;exact⟨h0,bh,h.trans h1,h2⟩
 |iter m since seen stepped=>obtain⟨h0,m',h1,h2⟩:=k;exact⟨h0,m',h.trans h1,h2⟩
 |loop st ig tm ps as bd=>obtain⟨h0,L,h1,h2⟩:=k;exact⟨h0,L,h.trans h1,h2⟩
 |deferred=>exact⟨k.1,h.trans k.2⟩
structure bq (Γ:bu) (W:World) (h:PT aj) (w:World):Prop where
 below:Below W.heap.size W w
 fz:∀ a,a.block<W.heap.size→w.frozen? a=W.frozen? a
 live:∀ i B,h.get i=some B→∃ b s,Γ.bW i=some (b,s)∧kg Γ w B b s∧(B.cB→W.heap.size≤b)
 lD:∀ i j B B' b s b' s',i≠j→h.get i=some B→h.get j=some B'→Γ.bW i=some (b,s)→Γ.bW j=some (b',s')→B.cB→b≠b'
 dom:∀ i b s,Γ.bW i=some (b,s)→b<w.heap.size
 iB:∀ b n,Γ.iB b=some n→∃ c el fz,w.heap[b]? = some (.cells c el fz)∧c.size=n
 fin:∃ N,∀ i,N≤i→Γ.bW i=none
 rows:∀ i c ro,h.get i=some (.cells c ro)→∃ L,c = .ofList .leaf 0 L
section
variable {Γ:bu} {W w:World} {h:PT aj}
theorem bq.drew (hS:bq Γ W h w):bq Γ W h w.drew:=
 ⟨hS.below.drew,hS.fz,hS.live,hS.lD,hS.dom,hS.iB,hS.fin,hS.rows⟩
theorem ni {w:World} {a:Addr} {cs:Array Value} {el:TypeId} {fz:Nat×Nat} (hs:a.spot=none) (h:w.heap[a.block]? = some (.cells cs el fz)):w.cell? a=cs[a.off]? := by
 simp[World.cell?,h,hs]
theorem bq.block (hS:bq Γ W h w) {i:Nat} {B:aj} (hb:h.get i=some B) {a a':Addr} (ha:Γ.addr a a') (hi:a.block=i):∃ s,Γ.bW i=some (a'.block,s)∧a'.off=s+a.off∧kg Γ w B a'.block s∧(B.cB→W.heap.size≤a'.block):=by
 obtain⟨s,e,o⟩:=ha.at_
 obtain⟨b,s',e',hB,hw⟩:=hS.live i B hb
 rw[hi] at e
 rw[e] at e'
 obtain⟨rfl,rfl⟩:a'.block=b∧s=s':=by simpa using e'
 exact⟨s,e,o,hB,hw⟩
theorem bq.cell (hS:bq Γ W h w) {i:Nat} {c:PT Value} {ro:Bool} (hb:h.get i=some (.cells c ro)) {o:Nat} {v:Value} (hc:c.get o=some v)
  {a a':Addr} (ha:Γ.addr a a') (hi:a.block=i) {j:Nat} (ho:a.off+j=o):∃ v',w.cell? (a'.add j)=some v'∧aF Γ v v':=by
 obtain⟨s,_,ho',⟨cs,el,fz,h1,_,h3⟩,_⟩:=hS.block hb ha hi
 obtain⟨v',e,r⟩:=h3 o v hc
 refine⟨v',?_,r⟩
 have e2:(a'.add j).block=a'.block∧(a'.add j).off=a'.off+j∧(a'.add j).spot=none:=by
  unfold Addr.add;split
  ·rename_i hj;exact⟨rfl,by omega,ha.spot'⟩
  ·exact⟨rfl,rfl,rfl⟩
 rw[ni e2.2.2 (by rw[e2.1];exact h1),e2.2.1,ho',show s+a.off+j=s+o by omega]
 exact e
theorem bq.CX (hS:bq Γ W h w) {i:Nat} {c:PT Value} {ro:Bool} (hb:h.get i=some (.cells c ro)) {v:Value}
  {a a':Addr} (hc:c.get a.off=some v) (ha:Γ.addr a a') (hi:a.block=i):∃ v',w.cell? a'=some v'∧aF Γ v v':=by
 obtain⟨v',e,r⟩:=hS.cell hb hc ha hi (j:=0) rfl
 exact⟨v',by simpa [Addr.add] using e,r⟩
theorem bq.frozen (hS:bq Γ W h w) {i:Nat} {c:PT Value} (hb:h.get i=some (.cells c false)) {a a':Addr} (ha:Γ.addr a a') (hi:a.block=i) (j:Nat):w.frozen? (a'.add j)=false:=by
 obtain⟨s,_,ho',⟨cs,el,fz,h1,h2,h3⟩,_⟩:=hS.block hb ha hi
 obtain rfl:=h2 rfl
 have e2:(a'.add j).block=a'.block:=by unfold Addr.add;split<;>rfl
 simp[World.frozen?,e2,h1]
theorem iu {w:World} {a:Addr} {v:Value} {b:Nat} (hb:b≠a.block):(w.setCell a v).heap[b]? = w.heap[b]? := by
 simp only[World.setCell,Array.getElem?_modify]
 rw[if_neg (Ne.symm hb)]
theorem heap_setCell_same {w:World} {a:Addr} {v:Value} {cs:Array Value} {el:TypeId} {fz:Nat×Nat} (hs:a.spot=none) (h:w.heap[a.block]? = some (.cells cs el fz)):
  (w.setCell a v).heap[a.block]? = some (.cells (cs.setIfInBounds a.off v) el fz):=by
 simp[World.setCell,Array.getElem?_modify,h,hs]
theorem pY {w:World} (hz:∀ b n,Γ.iB b=some n→∃ c el fz,w.heap[b]? = some (.cells c el fz)∧c.size=n) {a:Addr} (hs:a.spot=none) (v:Value):
  ∀ b n,Γ.iB b=some n→∃ c el fz,(w.setCell a v).heap[b]? = some (.cells c el fz)∧c.size=n:=by
 intro b n hb
 obtain⟨c,el,fz,h1,h2⟩:=hz b n hb
 by_cases um:b=a.block
 ·subst um
  exact⟨_,el,fz,heap_setCell_same hs h1,by simpa using h2⟩
 ·exact⟨c,el,fz,(iu um).trans h1,h2⟩
theorem lE {h:PT aj} (hR:∀ i c ro,h.get i=some (.cells c ro)→∃ L,c = .ofList .leaf 0 L) {j:Nat} {B:Option aj} (hB:∀ c ro,B=some (.cells c ro)→∃ L,c = .ofList .leaf 0 L):
  ∀ i c ro,(h.set j B).get i=some (.cells c ro)→∃ L,c = .ofList .leaf 0 L:=by
 intro i c ro e
 rw[PT.bK] at e
 split at e
 ·exact hB c ro e
 ·exact hR i c ro e
theorem CY {h:PT aj} (hR:∀ i c ro,h.get i=some (.cells c ro)→∃ L,c = .ofList .leaf 0 L) {j:Nat} {c:PT Value} {ro ro':Bool} (hb:h.get j=some (.cells c ro)) {o:Nat} {v:Value} (hc:(c.get o).isSome):
  ∀ i c' r',(h.set j (some (.cells (c.set o (some v)) ro'))).get i=some (.cells c' r')→∃ L,c' = .ofList .leaf 0 L:=by
 refine lE hR fun c' r' e=>?_
 obtain⟨L,rfl⟩:=hR j c ro hb
 rw[PT.bf] at hc
 have ho:o<L.length:=by
  rcases Nat.lt_or_ge o L.length with q |q
  ·exact q
  ·rw[List.getElem?_eq_none q] at hc;simp at hc
 obtain⟨rfl,_⟩:=aj.cells.inj (Option.some.inj e)
 exact⟨L.set o v,mJ L o v ho⟩
theorem bq.setCell (hS:bq Γ W h w) {i:Nat} {c:PT Value} (hb:h.get i=some (.cells c false)) {a a':Addr} (ha:Γ.addr a a') (hi:a.block=i)
  {v v':Value} (hv:aF Γ v v') (hc:(c.get a.off).isSome):bq Γ W (h.set i (some (.cells (c.set a.off (some v)) false))) (w.setCell a' v'):=by
 obtain⟨s,nF,ho',⟨cs,el,fz,h1,h2,h3⟩,hw⟩:=hS.block hb ha hi
 obtain rfl:=h2 rfl
 have fR:=hw rfl
 refine⟨hS.below.setCell fR _,fun x hx=>(World.frozen?_setCell _ _ _ _).trans (hS.fz x hx),?_,?_,?_,pY hS.iB ha.spot' _,hS.fin,CY hS.rows hb hc⟩
 ·intro j B hj
  rw[PT.bK] at hj
  by_cases hji:j=i
  ·subst hji
   rw[if_pos rfl] at hj
   obtain rfl:aj.cells (c.set a.off (some v)) false=B:=by simpa using hj
   refine⟨a'.block,s,nF,⟨_,el,(0,0),heap_setCell_same ha.spot' h1,fun _=>rfl,?_⟩,fun _=>fR⟩
   intro k u hu
   rw[PT.bK] at hu
   by_cases hk:k=a.off
   ·subst hk
    rw[if_pos rfl] at hu
    obtain rfl:v=u:=by simpa using hu
    obtain⟨u0,hu0⟩:=Option.isSome_iff_exists.1 hc
    obtain⟨x,hx,_⟩:=h3 _ _ hu0
    have hlt:s+a.off<cs.size:=by
     rcases Nat.lt_or_ge (s+a.off) cs.size with hlt |hge
     ·exact hlt
     ·simp[Array.getElem?_eq_none hge] at hx
    exact⟨v',by rw[ho'];simp[hlt],hv⟩
   ·rw[if_neg hk] at hu
    obtain⟨x,hx,r⟩:=h3 k u hu
    exact⟨x,by rw[ho',Array.getElem?_setIfInBounds_ne (by omega)];exact hx,r⟩
  ·rw[if_neg hji] at hj
   obtain⟨b,s',hb',hB,hw'⟩:=hS.live j B hj
   have hne:=hS.lD i j _ B a'.block s b s' (Ne.symm hji) hb hj nF hb' rfl
   exact⟨b,s',hb',hB.world (iu (Ne.symm hne)),hw'⟩
 ·intro x y B B' b s1 b' s2 hxy hx hy e1 e2 hB
  rw[PT.bK] at hx hy
  have key:∀ z C,(if z=i then some (aj.cells (c.set a.off (some v)) false) else h.get z)=some C→∃ C',h.get z=some C'∧(C.cB→C'.cB):=by
   intro z C hz
   by_cases O9:z=i
   ·subst O9;rw[if_pos rfl] at hz;exact⟨_,hb,fun _=>rfl⟩
   ·rw[if_neg O9] at hz;exact⟨C,hz,id⟩
  obtain⟨C,hC,Wq⟩:=key x B hx
  obtain⟨C',Wr,_⟩:=key y B' hy
  exact hS.lD x y C C' b s1 b' s2 hxy hC Wr e1 e2 (Wq hB)
 ·intro j b s' hj
  simpa [World.setCell] using hS.dom j b s' hj
theorem bq.vw (hS:bq Γ W h w) {a':Addr} (hs:a'.spot=none) (v':Value) (fR:W.heap.size≤a'.block)
  (hfree:∀ j B b s,h.get j=some B→Γ.bW j=some (b,s)→b≠a'.block):bq Γ W h (w.setCell a' v'):=by
 refine⟨hS.below.setCell fR _,fun x hx=>(World.frozen?_setCell _ _ _ _).trans (hS.fz x hx),?_,hS.lD,?_,pY hS.iB hs _,hS.fin,hS.rows⟩
 ·intro j B hj
  obtain⟨b,s,e,hB,hw⟩:=hS.live j B hj
  exact⟨b,s,e,hB.world (iu (hfree j B b s hj e)),hw⟩
 ·intro j b s' hj
  simpa [World.setCell] using hS.dom j b s' hj
theorem bq.kill (hS:bq Γ W h w) (i:Nat):bq Γ W (h.set i none) w:=by
 refine⟨hS.below,hS.fz,?_,?_,hS.dom,hS.iB,hS.fin,lE hS.rows (fun c ro e=>by simp at e)⟩
 ·intro j B hj
  rw[PT.bK] at hj
  by_cases hji:j=i
  ·rw[if_pos hji] at hj;simp at hj
  ·rw[if_neg hji] at hj;exact hS.live j B hj
 ·intro x y B B' b s1 b' s2 hxy hx hy
  rw[PT.bK] at hx hy
  by_cases xD:x=i
  ·rw[if_pos xD] at hx;simp at hx
  ·by_cases ZP:y=i
   ·rw[if_pos ZP] at hy;simp at hy
   ·rw[if_neg xD] at hx;rw[if_neg ZP] at hy;exact hS.lD x y B B' b s1 b' s2 hxy hx hy
def bu.ext (Γ:bu) (n b s:Nat) (z:Nat→Option Nat):bu:=⟨fun i=>if i=n then some (b,s) else Γ.bW i,z⟩
theorem bu.uo (Γ:bu) {n b s:Nat} {z:Nat→Option Nat} (hn:Γ.bW n=none) (hz:∀ b m,Γ.iB b=some m→z b=some m):Γ.le (Γ.ext n b s z):=
 ⟨fun i x e=>by
  have:i≠n:=fun e'=>by rw[e',hn] at e;simp at e
  simp[bu.ext,this,e],hz⟩
theorem heap_alloc_new (w:World) (o:Obj):(w.alloc o).heap[w.heap.size]? = some o:=by
 show (w.heap.push o)[w.heap.size]? = _
 simp
theorem eS {w:World} {b:Nat} {o:Obj} (h:w.heap[b]? = some o):b<w.heap.size:=by
 rcases Nat.lt_or_ge b w.heap.size with hlt |hge
 ·exact hlt
 ·simp[Array.getElem?_eq_none hge] at h
theorem bq.zP (hS:bq Γ W h w):Γ.iB w.heap.size=none:=by
 cases hz:Γ.iB w.heap.size with
 |none=>rfl
 |some m=>obtain⟨c,e,f,h1,_⟩:=hS.iB _ _ hz;exact absurd (eS h1) (by omega)
theorem bu.zQ {n b s:Nat} {z:Nat→Option Nat} (h:∃ N,∀ i,N≤i→Γ.bW i=none):∃ N,∀ i,N≤i→(Γ.ext n b s z).bW i=none:=by
 obtain⟨N,hN⟩:=h
 refine⟨max N (n+1),fun i hi=>?_⟩
 have h1:i≠n:=by omega
 simp[bu.ext,h1,hN i (by omega)]
theorem bq.vA (hS:bq Γ W h w) {n:Nat} (hn:Γ.bW n=none) (o:Obj) (B:aj) (z:Nat→Option Nat)
  (hz:∀ b m,Γ.iB b=some m→z b=some m) (hzn:∀ b m,z b=some m→b≠w.heap.size→Γ.iB b=some m)
  (hzo:∀ m,z w.heap.size=some m→∃ c el fz,o = .cells c el fz∧c.size=m)
  (hf:∀ a,(w.alloc o).frozen? a=w.frozen? a) (hR:∀ c ro,B = .cells c ro→∃ L,c = .ofList .leaf 0 L) (hB:kg (Γ.ext n w.heap.size 0 z) (w.alloc o) B w.heap.size 0):
  bq (Γ.ext n w.heap.size 0 z) W (h.set n (some B)) (w.alloc o):=by
 have hle:Γ.le (Γ.ext n w.heap.size 0 z):=Γ.uo hn hz
 have hold:∀ b,b<w.heap.size→(w.alloc o).heap[b]? = w.heap[b]? := fun b hb=>Below.heap_alloc w _ b hb
 refine⟨hS.below.alloc hS.below.size _,fun a ha=>(hf a).trans (hS.fz a ha),?_,?_,?_,?_,bu.zQ hS.fin,lE hS.rows fun c ro e=>hR c ro (by simpa using e)⟩
 ·intro j C hj
  rw[PT.bK] at hj
  by_cases hjn:j=n
  ·subst hjn
   rw[if_pos rfl] at hj
   obtain rfl:B=C:=by simpa using hj
   exact⟨w.heap.size,0,by simp[bu.ext],hB,fun _=>hS.below.size⟩
  ·rw[if_neg hjn] at hj
   obtain⟨b,s,e,hB,hw⟩:=hS.live j C hj
   exact⟨b,s,hle.bW _ _ e,(hB.world (hold b (hS.dom _ _ _ e))).mono hle,hw⟩
 ·intro x y C C' b s1 b' s2 hxy hx hy e1 e2 hC
  rw[PT.bK] at hx hy
  by_cases Np:x=n
  ·subst Np
   rw[if_neg (Ne.symm hxy)] at hy
   obtain⟨b0,s0,e0,_,_⟩:=hS.live y C' hy
   have O_:=hle.bW _ _ e0
   rw[e2] at O_
   obtain⟨rfl,rfl⟩:b'=b0∧s2=s0:=by simpa using O_
   have:=hS.dom _ _ _ e0
   have AI:some (w.heap.size,0)=some (b,s1):=by simpa [bu.ext] using e1
   obtain⟨rfl,rfl⟩:w.heap.size=b∧0=s1:=by simpa using AI
   omega
  ·rw[if_neg Np] at hx
   obtain⟨b0,s0,e0,_,_⟩:=hS.live x C hx
   have O_:=hle.bW _ _ e0
   rw[e1] at O_
   obtain⟨rfl,rfl⟩:b=b0∧s1=s0:=by simpa using O_
   have hlt:=hS.dom _ _ _ e0
   by_cases Nq:y=n
   ·subst Nq
    have Jl:some (w.heap.size,0)=some (b',s2):=by simpa [bu.ext] using e2
    obtain⟨rfl,rfl⟩:w.heap.size=b'∧0=s2:=by simpa using Jl
    omega
   ·rw[if_neg Nq] at hy
    obtain⟨b1,s1',AI,_,_⟩:=hS.live y C' hy
    have Jl:=hle.bW _ _ AI
    rw[e2] at Jl
    obtain⟨rfl,rfl⟩:b'=b1∧s2=s1':=by simpa using Jl
    exact hS.lD x y C C' _ _ _ _ hxy hx hy e0 AI hC
 ·intro i b s e
  have:(w.alloc o).heap.size=w.heap.size+1:=by simp
  by_cases hin:i=n
  ·subst hin
   have AI:some (w.heap.size,0)=some (b,s):=by simpa [bu.ext] using e
   obtain⟨rfl,rfl⟩:w.heap.size=b∧0=s:=by simpa using AI
   omega
  ·have:=hS.dom i b s (by simpa [bu.ext,hin] using e)
   omega
 ·intro b m e
  by_cases hb:b=w.heap.size
  ·subst hb
   obtain⟨c,el,fz,rfl,hc⟩:=hzo m e
   exact⟨c,el,fz,heap_alloc_new _ _,hc⟩
  ·obtain⟨c,e',f,h1,h2⟩:=hS.iB b m (hzn b m e hb)
   exact⟨c,e',f,(hold b (eS h1)).trans h1,h2⟩
structure bu.Step (Γ aS:bu) (n:Nat):Prop where
 le:Γ.le aS
 out:∀ i,i≠n→aS.bW i=Γ.bW i
theorem bq.kj (hS:bq Γ W h w) {n:Nat} (hn:Γ.bW n=none) (l:List Value) (cs:Array Value) (el:TypeId)
  (hl:∀ (i:Nat) (v:Value),l[i]? = some v→∃ v',cs[i]? = some v'∧aF Γ v v'):
  ∃ aS,Γ.Step aS n∧aS.bW n=some (w.heap.size,0)∧aS.iB w.heap.size=some cs.size∧
   bq aS W (h.set n (some (.cells (PT.ofList .leaf 0 l) false))) (w.alloc (.cells cs el)):=by
 have zR:=hS.zP
 let z:Nat→Option Nat:=fun b=>if b=w.heap.size then some cs.size else Γ.iB b
 have vB:∀ b m,Γ.iB b=some m→z b=some m:=by
  intro b m e
  have:b≠w.heap.size:=fun e'=>by rw[e',zR] at e;simp at e
  simp[z,this,e]
 have hle:Γ.le (Γ.ext n w.heap.size 0 z):=Γ.uo hn vB
 refine⟨Γ.ext n w.heap.size 0 z,⟨hle,fun i hi=>by simp[bu.ext,hi]⟩,by simp[bu.ext],by simp[bu.ext,z],?_⟩
 refine hS.vA hn _ _ z vB (fun b m e hb=>by simpa [z,hb] using e) (fun m e=>⟨cs,el,(0,0),rfl,by simpa [z] using e⟩) (frozen?_alloc_cells w cs el) (fun c ro e=>⟨l,(aj.cells.inj e).1.symm⟩) ?_
 refine⟨cs,el,(0,0),heap_alloc_new _ _,fun _=>rfl,fun i v hv=>?_⟩
 rw[PT.bf] at hv
 obtain⟨v',e,r⟩:=hl i v hv
 exact⟨v',by simpa using e,r.mono hle⟩
def cU:Obj→Bool
 | .cells .. => false
 | _=>true
theorem mX (w:World) (o:Obj) (ho:cU o=true) (a:Addr):(w.alloc o).frozen? a=w.frozen? a:=by
 by_cases h:a.block=w.heap.size
 ·have e1:(w.alloc o).heap[a.block]? = some o:=by rw[h];exact heap_alloc_new _ _
  have e2:w.heap[a.block]? = none:=by rw[h];simp
  cases o<;>first | (simp[cU] at ho;done) |simp[World.frozen?,e1,e2]
 ·exact World.frozen?_alloc_old _ _ _ h
theorem bq.gG (hS:bq Γ W h w) {n:Nat} (hn:Γ.bW n=none) (o:Obj) (B:aj) (ho:cU o=true)
  (hB:∀ (aS:bu) (w':World),Γ.le aS→w'.heap[w.heap.size]? = some o→kg aS w' B w.heap.size 0):
  ∃ aS,Γ.Step aS n∧aS.bW n=some (w.heap.size,0)∧bq aS W (h.set n (some B)) (w.alloc o):=by
 have zR:=hS.zP
 have hle:Γ.le (Γ.ext n w.heap.size 0 Γ.iB):=Γ.uo hn fun _ _ h=>h
 refine⟨Γ.ext n w.heap.size 0 Γ.iB,⟨hle,fun i hi=>by simp[bu.ext,hi]⟩,by simp[bu.ext],?_⟩
 exact hS.vA hn _ _ Γ.iB (fun _ _ h=>h) (fun b m e _=>e) (fun m e=>by rw[zR] at e;simp at e) (mX w o ho) (fun c ro e=>by
  subst e
  obtain⟨cs,el,fz,q,_⟩:=hB _ _ hle (heap_alloc_new w o)
  rw[heap_alloc_new] at q
  rw[Option.some.inj q] at ho;simp[cU] at ho) (hB _ _ hle (heap_alloc_new _ _))
theorem bq.view (hS:bq Γ W h w) {n:Nat} (hn:Γ.bW n=none) (l:List Value) {b s:Nat} {cs:Array Value} {el:TypeId} (hb:w.heap[b]? = some (.cells cs el (0,0)))
  (fR:W.heap.size≤b) (hfree:∀ j B b' s',h.get j=some B→Γ.bW j=some (b',s')→b'≠b)
  (hl:∀ (i:Nat) (v:Value),l[i]? = some v→∃ v',cs[s+i]? = some v'∧aF Γ v v'):
  ∃ aS,Γ.Step aS n∧aS.bW n=some (b,s)∧bq aS W (h.set n (some (.cells (PT.ofList .leaf 0 l) false))) w:=by
 have hle:Γ.le (Γ.ext n b s Γ.iB):=Γ.uo hn fun _ _ h=>h
 refine⟨Γ.ext n b s Γ.iB,⟨hle,fun i hi=>by simp[bu.ext,hi]⟩,by simp[bu.ext],hS.below,hS.fz,?_,?_,?_,hS.iB,bu.zQ hS.fin,lE hS.rows fun c ro e=>⟨l,by simpa using (aj.cells.inj (Option.some.inj e)).1.symm⟩⟩
 ·intro j C hj
  rw[PT.bK] at hj
  by_cases hjn:j=n
  ·subst hjn
   rw[if_pos rfl] at hj
   obtain rfl:aj.cells (PT.ofList .leaf 0 l) false=C:=by simpa using hj
   refine⟨b,s,by simp[bu.ext],⟨cs,el,(0,0),hb,fun _=>rfl,fun i v hv=>?_⟩,fun _=>fR⟩
   rw[PT.bf] at hv
   obtain⟨v',e,r⟩:=hl i v hv
   exact⟨v',e,r.mono hle⟩
  ·rw[if_neg hjn] at hj
   obtain⟨b',s',e,hB,hw⟩:=hS.live j C hj
   exact⟨b',s',hle.bW _ _ e,hB.mono hle,hw⟩
 ·intro x y C C' b1 s1 b2 s2 hxy hx hy e1 e2 hC
  rw[PT.bK] at hx hy
  by_cases Np:x=n
  ·subst Np
   rw[if_neg (Ne.symm hxy)] at hy
   have AI:some (b,s)=some (b1,s1):=by simpa [bu.ext] using e1
   obtain⟨rfl,rfl⟩:b=b1∧s=s1:=by simpa using AI
   exact Ne.symm (hfree y C' b2 s2 hy (by simpa [bu.ext,Ne.symm hxy] using e2))
  ·rw[if_neg Np] at hx
   have AI:Γ.bW x=some (b1,s1):=by simpa [bu.ext,Np] using e1
   by_cases Nq:y=n
   ·subst Nq
    have Jl:some (b,s)=some (b2,s2):=by simpa [bu.ext] using e2
    obtain⟨rfl,rfl⟩:b=b2∧s=s2:=by simpa using Jl
    exact hfree x C b1 s1 hx AI
   ·rw[if_neg Nq] at hy
    exact hS.lD x y C C' _ _ _ _ hxy hx hy AI (by simpa [bu.ext,Nq] using e2) hC
 ·intro i b1 s1 e
  by_cases hin:i=n
  ·subst hin
   have AI:some (b,s)=some (b1,s1):=by simpa [bu.ext] using e
   obtain⟨rfl,rfl⟩:b=b1∧s=s1:=by simpa using AI
   exact eS hb
  ·exact hS.dom i b1 s1 (by simpa [bu.ext,hin] using e)
theorem bq.rj (hS:bq Γ W h w) {i:Nat} {B B':aj} (hb:h.get i=some B) {r:Nat} (hr:Γ.bW i=some (r,0)) {o:Obj} (xT:B.cB) (afO:B'.cB)
  (hold:∀ w',kg Γ w' B r 0→∃ o',w'.heap[r]? = some o'∧cU o'=true) (hno:cU o=true)
  (he:∀ w':World,w'.heap[r]? = some o→kg Γ w' B' r 0):
  bq Γ W (h.set i (some B')) { w with heap:=w.heap.setIfInBounds r o }:=by
 obtain⟨b,s,e,Jm,hw⟩:=hS.live i _ hb
 rw[hr] at e
 obtain⟨rfl,rfl⟩:r=b∧0=s:=by simpa using e
 obtain⟨o',h1,Kz⟩:=hold _ Jm
 have fR:=hw xT
 have hne:∀ k,k≠r→(w.heap.setIfInBounds r o)[k]? = w.heap[k]? := fun k hk=>by rw[Array.getElem?_setIfInBounds_ne (Ne.symm hk)]
 have hsame:(w.heap.setIfInBounds r o)[r]? = some o:=by simp[eS h1]
 have hnf:∀ a,World.frozen? { w with heap:=w.heap.setIfInBounds r o } a=w.frozen? a:=by
  intro a
  by_cases ha:a.block=r
  ·cases o<;>cases o'<;>first | (simp[cU] at hno;done) | (simp[cU] at Kz;done) |simp only[World.frozen?,ha,hsame,h1]
  ·simp only[World.frozen?,hne _ ha]
 refine⟨hS.below.trans ⟨rfl,rfl,rfl,by simp,fun k hk=>hne k (by omega)⟩,fun a ha=>(hnf a).trans (hS.fz a ha),?_,?_,?_,?_,hS.fin,lE hS.rows fun c ro e=>by
  obtain rfl:=Option.some.inj e
  obtain⟨cs,el,fz,q,_⟩:=he { w with heap:=w.heap.setIfInBounds r o } hsame
  rw[show ({ w with heap:=w.heap.setIfInBounds r o }:World).heap=w.heap.setIfInBounds r o from rfl,hsame] at q
  rw[Option.some.inj q] at hno;simp[cU] at hno⟩
 ·intro j C hj
  rw[PT.bK] at hj
  by_cases hji:j=i
  ·subst hji
   rw[if_pos rfl] at hj
   obtain rfl:B'=C:=by simpa using hj
   exact⟨r,0,hr,he _ hsame,fun _=>fR⟩
  ·rw[if_neg hji] at hj
   obtain⟨b,s',hb',hB,hw'⟩:=hS.live j C hj
   have Ws:=hS.lD i j _ C r 0 b s' (Ne.symm hji) hb hj hr hb' xT
   exact⟨b,s',hb',hB.world (hne b (Ne.symm Ws)),hw'⟩
 ·intro x y C C' b s1 b' s2 hxy hx hy e1 e2 hB
  rw[PT.bK] at hx hy
  have key:∀ z C,(if z=i then some B' else h.get z)=some C→∃ C',h.get z=some C'∧(C.cB→C'.cB):=by
   intro z C hz
   by_cases O9:z=i
   ·subst O9;rw[if_pos rfl] at hz;exact⟨_,hb,fun _=>xT⟩
   ·rw[if_neg O9] at hz;exact⟨C,hz,id⟩
  obtain⟨C1,hC,Wq⟩:=key x C hx
  obtain⟨C1',Wr,_⟩:=key y C' hy
  exact hS.lD x y C1 C1' b s1 b' s2 hxy hC Wr e1 e2 (Wq hB)
 ·intro j b s' hj
  simpa using hS.dom j b s' hj
 ·intro b n Gt
  obtain⟨c,el,fz,h2,h3⟩:=hS.iB b n Gt
  have:b≠r:=fun e=>by rw[e,h1] at h2;simp at h2;rw[h2] at Kz;simp[cU] at Kz
  exact⟨c,el,fz,(hne b this).trans h2,h3⟩
theorem bq.xU (hS:bq Γ W h w) {i:Nat} {es es':List (Value×Value×Nat)} {clk Pb:Nat} (hb:h.get i=some (.map es clk)) {r:Nat} (hr:Γ.bW i=some (r,0))
  (bh:Array MapEntry) (he:bL Γ es' bh.toList):
  bq Γ W (h.set i (some (.map es' Pb))) { w with heap:=w.heap.setIfInBounds r (.map bh Pb) }:=
 hS.rj hb hr trivial trivial (fun w' ⟨_,bh,h1,_⟩=>⟨_,h1,rfl⟩) rfl fun w' h1=>⟨rfl,bh,h1,he⟩
end
section
variable (P:Program)
def ak {α β:Type} (Γ:bu) (W:World) (h:PT aj) (n:Nat) (w:World) (m:AP α) (e:Sem β) (R:bu→α→β→Prop):Prop:=
 ∀ lim rd wr a s',m.run lim ⟨h,n,rd,wr⟩ = .ok a s'→(∀ i,n≤i→i<s'.next→Γ.bW i=none)→
  ∃ aS w' b,e.run P w = .ok b w'∧Γ.le aS∧bq aS W s'.heap w'∧(∀ i,¬(n≤i∧i<s'.next)→aS.bW i=Γ.bW i)∧R aS a b
def fK {α β:Type} (Γ:bu) (m:AP α) (e:Sem β) (R:bu→α→β→Prop):Prop:=
 ∀ W h n w,bq Γ W h w→ak P Γ W h n w m e R
variable {P}
variable {α β:Type} {Γ:bu} {W:World} {h:PT aj} {n:Nat} {w:World} {R:bu→α→β→Prop}
theorem AP.iU {α:Type} (lim:Nat):∀ (m:AP α) (s:HS) (a:α) (s':HS),m.run lim s = .ok a s'→s.next≤s'.next
 | .pure a,s,_,s',e=>by simp[AP.run] at e;rw[←e.2];exact Nat.le_refl _
 | .fail _,s,_,s',e=>by simp[AP.run] at e
 | .get id k,s,a,s',e=>by
  simp only[AP.run] at e
  split at e
  ·simp at e
  ·refine Nat.le_trans ?_ (AP.iU lim _ _ _ _ e);cases Nat.blt id lim<;>exact Nat.le_refl _
 | .set id b k,s,a,s',e=>by
  simp only[AP.run] at e
  split at e
  ·simp at e
  ·refine Nat.le_trans ?_ (AP.iU lim _ _ _ _ e);cases Nat.blt id lim<;>exact Nat.le_refl _
 | .kill id k,s,a,s',e=>by
  simp only[AP.run] at e
  split at e
  ·simp at e
  ·refine Nat.le_trans ?_ (AP.iU lim _ _ _ _ e);cases Nat.blt id lim<;>exact Nat.le_refl _
 | .new b k,s,a,s',e=>by
  simp only[AP.run] at e
  refine Nat.le_trans ?_ (AP.iU lim _ _ _ _ e);exact Nat.le_succ _
theorem AP.run_bind {α β:Type} (lim:Nat) (f:α→AP β):∀ (m:AP α) (s:HS),(m.bind f).run lim s=match m.run lim s with | .ok a s=>(f a).run lim s | .fail w => .fail w
 | .pure a,s=>rfl
 | .fail _,s=>rfl
 | .get id k,s=>by
  simp only[AP.bind,AP.run];split
  ·rfl
  ·exact AP.run_bind lim f _ _
 | .set id b k,s=>by
  simp only[AP.bind,AP.run];split
  ·rfl
  ·exact AP.run_bind lim f _ _
 | .kill id k,s=>by
  simp only[AP.bind,AP.run];split
  ·rfl
  ·exact AP.run_bind lim f _ _
 | .new b k,s=>by simp only[AP.bind,AP.run];exact AP.run_bind lim f _ _
theorem ak.fail {why:String} {e:Sem β}:ak P Γ W h n w (.fail why:AP α) e R:=by
 intro lim rd wr a s' hr;simp[AP.run] at hr
theorem ak.ok (hS:bq Γ W h w) {a:α} {e:Sem β} {b:β} (he:e.run P w = .ok b w) (hR:R Γ a b):ak P Γ W h n w (.pure a) e R:=by
 intro lim rd wr a' s' hr _
 simp only[AP.run,bw.ok.injEq] at hr
 obtain⟨rfl,rfl⟩:=hr
 exact⟨Γ,w,b,he,.refl _,hS,fun _ _=>rfl,hR⟩
theorem ak.get {id:Nat} {k:aj→AP α} {e:Sem β} (hk:∀ B,h.get id=some B→ak P Γ W h n w (k B) e R):ak P Γ W h n w (.get id k) e R:=by
 intro lim rd wr a s' hr hf
 simp only[AP.run] at hr
 split at hr
 ·simp at hr
 ·rename_i B hB
  cases hb:Nat.blt id lim with
  |true=>rw[hb] at hr;exact hk B hB lim _ _ a s' hr hf
  |false=>rw[hb] at hr;exact hk B hB lim _ _ a s' hr hf
theorem ak.set {id:Nat} {B:aj} {k:AP α} {e e':Sem β} {w':World} (he:e.run P w=e'.run P w') (hk:ak P Γ W (h.set id (some B)) n w' k e' R):
  ak P Γ W h n w (.set id B k) e R:=by
 intro lim rd wr a s' hr hf
 simp only[AP.run] at hr
 split at hr
 ·simp at hr
 ·rw[he]
  cases hb:Nat.blt id lim with
  |true=>rw[hb] at hr;exact hk lim _ _ a s' hr hf
  |false=>rw[hb] at hr;exact hk lim _ _ a s' hr hf
theorem ak.kill {id:Nat} {k:AP α} {e:Sem β} (hk:ak P Γ W (h.set id none) n w k e R):ak P Γ W h n w (.kill id k) e R:=by
 intro lim rd wr a s' hr hf
 simp only[AP.run] at hr
 split at hr
 ·simp at hr
 ·cases hb:Nat.blt id lim with
  |true=>rw[hb] at hr;exact hk lim _ _ a s' hr hf
  |false=>rw[hb] at hr;exact hk lim _ _ a s' hr hf
theorem ak.new {B:aj} {k:Nat→AP α} {e:Sem β}
  (hk:Γ.bW n=none→∃ (cC:bu) (w₁:World) (e':Sem β),Γ.Step cC n∧e.run P w=e'.run P w₁∧ak P cC W (h.set n (some B)) (n+1) w₁ (k n) e' R):
  ak P Γ W h n w (.new B k) e R:=by
 intro lim rd wr a s' hr hf
 simp only[AP.run] at hr
 have hle:=AP.iU lim _ _ _ _ hr
 have hle':n+1≤s'.next:=hle
 obtain⟨cC,w₁,e',hst,he,hs⟩:=hk (hf n (Nat.le_refl _) (by omega))
 obtain⟨aS,w',b,h1,h2,h3,h4,h5⟩:=hs lim _ _ a s' hr (fun i hi hi'=>by rw[hst.out i (by omega)];exact hf i (by omega) hi')
 refine⟨aS,w',b,he.trans h1,hst.le.trans h2,h3,fun i hi=>?_,h5⟩
 rw[h4 i (by omega),hst.out i (by omega)]
theorem ak.congr {m:AP α} {e e':Sem β} {w':World} (he:e.run P w=e'.run P w') (hk:ak P Γ W h n w' m e' R):ak P Γ W h n w m e R:=by
 intro lim rd wr a s' hr hf
 rw[he]
 exact hk lim rd wr a s' hr hf
theorem ak.bind {γ δ:Type} {m:AP α} {f:α→AP γ} {e:Sem β} {g:β→Sem δ} {R':bu→γ→δ→Prop}
  (hm:ak P Γ W h n w m e R) (hf:∀ aS a b,Γ.le aS→R aS a b→fK P aS (f a) (g b) R'):ak P Γ W h n w (m.bind f) (e >>= g) R':=by
 intro lim rd wr a s' hr hfree
 rw[AP.run_bind] at hr
 split at hr
 ·rename_i a₁ s₁ Jn
  have hle:=AP.iU lim _ _ _ _ Jn
  have hle':=AP.iU lim _ _ _ _ hr
  have hle:n≤s₁.next:=hle
  obtain⟨cC,w₁,b₁,h1,h2,h3,h4,h5⟩:=hm lim rd wr a₁ s₁ Jn (fun i hi hi'=>hfree i hi (by omega))
  obtain⟨aS,w',b,k1,k2,k3,k4,k5⟩:=hf cC a₁ b₁ h2 h5 W s₁.heap s₁.next w₁ h3 lim s₁.rd s₁.wr a s' hr (fun i hi hi'=>by
   rw[h4 i (by omega)];exact hfree i (by omega) hi')
  refine⟨aS,w',b,?_,h2.trans k2,k3,fun i hi=>?_,k5⟩
  ·rw[Sem.run_bind,h1];exact k1
  ·rw[k4 i (by omega),h4 i (by omega)]
 ·simp at hr
theorem ak.mono {m:AP α} {e:Sem β} {R':bu→α→β→Prop} (hm:ak P Γ W h n w m e R) (hR:∀ aS a b,R aS a b→R' aS a b):ak P Γ W h n w m e R':=by
 intro lim rd wr a s' hr hf
 obtain⟨aS,w',b,h1,h2,h3,h4,h5⟩:=hm lim rd wr a s' hr hf
 exact⟨aS,w',b,h1,h2,h3,h4,hR _ _ _ h5⟩
end
end Go.Am
