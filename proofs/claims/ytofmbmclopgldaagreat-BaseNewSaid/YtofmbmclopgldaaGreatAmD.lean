/-
  The abstract machine: when an abstract heap stands for the model's; what each access keeps; the simulation's word and its rules.
-/
import Derived.Test.YtofmbmclopgldaaGreatAmC
set_option linter.unusedSimpArgs false
set_option linter.unusedVariables false
namespace Go.Am
open Go.RowKit
inductive bF (Γ:br):List (Value×Value×Nat)→List MapEntry→Prop
 |nil:bF Γ [] []
 |cons (p:Value×Value×Nat) (e:MapEntry) (l:List (Value×Value×Nat)) (l':List MapEntry) (hk:aA Γ p.1 e.key) (hv:aA Γ p.2.1 e.val) (hb:p.2.2=e.born) (t:bF Γ l l'):bF Γ (p::l) (e::l')
theorem bF.mono {Γ aS:br} (h:Γ.le aS):∀ {l:List (Value×Value×Nat)} {l':List MapEntry},bF Γ l l'→bF aS l l'
 | _,_,.nil => .nil
 | _,_,.cons p e _ _ hk hv hb t => .cons p e _ _ (hk.mono h) (hv.mono h) hb (bF.mono h t)
theorem bF.length {Γ:br}:∀ {l:List (Value×Value×Nat)} {l':List MapEntry},bF Γ l l'→l'.length=l.length
 | _,_,.nil=>rfl
 | _,_,.cons _ _ _ _ _ _ _ t=>by simp[bF.length t]
theorem bF.append {Γ:br}:∀ {l m:List (Value×Value×Nat)} {l' m':List MapEntry},bF Γ l l'→bF Γ m m'→bF Γ (l++m) (l'++m')
 | _,_,_,_,.nil,k=>k
 | _,_,_,_,.cons p e _ _ hk hv hb t,k => .cons p e _ _ hk hv hb (bF.append t k)
def ak.cA:ak→Prop
 | .cells _ ro=>ro=false
 | _=>True
def j5 (Γ:br) (w:World):ak→Nat→Nat→Prop
 | .cells c ro,b,s=>∃ cs el fz,w.heap[b]? = some (.cells cs el fz)∧(ro=false→fz=(0,0))∧∀ i v,c.get i=some v→∃ v',cs[s+i]? = some v'∧aA Γ v v'
 | .map es clk,b,s=>s=0∧∃ aU,w.heap[b]? = some (.map aU clk)∧bF Γ es aU.toList
 | .iter m since seen stepped,b,s=>s=0∧∃ m',w.heap[b]? = some (.mapIter m' since ⟨seen⟩ stepped)∧(m=none→m'=none)∧∀ r,m=some r→∃ r',m'=some r'∧Γ.blk r=some (r',0)
 | .loop st gH tm ps as bd,b,s=>s=0∧∃ L:Loop,w.heap[b]? = some (.loop L)∧L.state=st∧L.pending=gH∧fm Γ tm L.tmps∧L.params.toList=ps∧L.assign=as∧L.body=bd
 | .deferred,b,s=>s=0∧w.heap[b]? = some (.deferred (some []))
theorem j5.mono {Γ aS:br} (h:Γ.le aS) {w:World} {B:ak} {b s:Nat} (k:j5 Γ w B b s):j5 aS w B b s:=by
 cases B with
 |cells c ro=>obtain⟨cs,el,fz,h1,h2,h3⟩:=k;exact⟨cs,el,fz,h1,h2,fun i v e=>let ⟨v',e',r⟩:=h3 i v e;⟨v',e',r.mono h⟩⟩
 |map es clk=>obtain⟨h0,aU,h1,h2⟩:=k;exact⟨h0,aU,h1,h2.mono h⟩
 |iter m since seen stepped=>obtain⟨h0,m',h1,h2,h3⟩:=k;exact⟨h0,m',h1,h2,fun r e=>let ⟨r',e',hb⟩:=h3 r e;⟨r',e',h.blk _ _ hb⟩⟩
 |loop st gH tm ps as bd=>obtain⟨h0,L,h1,h2,h3,h4,h5⟩:=k;exact⟨h0,L,h1,h2,h3,h4.mono h,h5⟩
 |deferred=>exact k
theorem j5.world {Γ:br} {w w':World} {B:ak} {b s:Nat} (k:j5 Γ w B b s) (h:w'.heap[b]? = w.heap[b]?):j5 Γ w' B b s:=by
 cases B with
 |cells c ro=>obtain⟨cs,el,fz,h1,h2,h3⟩:=k;exact⟨cs,el,fz,h.trans h1,h2,h3⟩
 |map es clk=>obtain⟨h0,aU,h1,h2⟩:=k;exact⟨h0,aU,h.trans h1,h2⟩
 |iter m since seen stepped=>obtain⟨h0,m',h1,h2⟩:=k;exact⟨h0,m',h.trans h1,h2⟩
 |loop st gH tm ps as bd=>obtain⟨h0,L,h1,h2⟩:=k;exact⟨h0,L,h.trans h1,h2⟩
 |deferred=>exact⟨k.1,h.trans k.2⟩
structure bh (Γ:br) (W:World) (h:PT ak) (w:World):Prop where
 below:Below W.heap.size W w
 fz:∀ a,a.block<W.heap.size→w.frozen? a=W.frozen? a
 live:∀ i B,h.get i=some B→∃ b s,Γ.blk i=some (b,s)∧j5 Γ w B b s∧(B.cA→W.heap.size≤b)
 j6:∀ i j B B' b s b' s',i≠j→h.get i=some B→h.get j=some B'→Γ.blk i=some (b,s)→Γ.blk j=some (b',s')→B.cA→b≠b'
 dom:∀ i b s,Γ.blk i=some (b,s)→b<w.heap.size
 gG:∀ b n,Γ.gG b=some n→∃ c el fz,w.heap[b]? = some (.cells c el fz)∧c.size=n
 fin:∃ N,∀ i,N≤i→Γ.blk i=none
 rows:∀ i c ro,h.get i=some (.cells c ro)→∃ L,c = .ofList .leaf 0 L
section
variable {Γ:br} {W w:World} {h:PT ak}
theorem bh.drew (hS:bh Γ W h w):bh Γ W h w.drew:=
 ⟨hS.below.drew,hS.fz,hS.live,hS.j6,hS.dom,hS.gG,hS.fin,hS.rows⟩
theorem jC {w:World} {a:Addr} {cs:Array Value} {el:TypeId} {fz:Nat×Nat} (hs:a.spot=none) (h:w.heap[a.block]? = some (.cells cs el fz)):w.cell? a=cs[a.off]? := by
 simp[World.cell?,h,hs]
theorem bh.block (hS:bh Γ W h w) {i:Nat} {B:ak} (hb:h.get i=some B) {a a':Addr} (ha:Γ.addr a a') (hi:a.block=i):∃ s,Γ.blk i=some (a'.block,s)∧a'.off=s+a.off∧j5 Γ w B a'.block s∧(B.cA→W.heap.size≤a'.block):=by
 obtain⟨s,e,o⟩:=ha.at_
 obtain⟨b,s',e',hB,hw⟩:=hS.live i B hb
 rw[hi] at e
 rw[e] at e'
 obtain⟨rfl,rfl⟩:a'.block=b∧s=s':=by simpa using e'
 exact⟨s,e,o,hB,hw⟩
theorem bh.cell (hS:bh Γ W h w) {i:Nat} {c:PT Value} {ro:Bool} (hb:h.get i=some (.cells c ro)) {o:Nat} {v:Value} (hc:c.get o=some v)
  {a a':Addr} (ha:Γ.addr a a') (hi:a.block=i) {j:Nat} (ho:a.off+j=o):∃ v',w.cell? (a'.add j)=some v'∧aA Γ v v':=by
 obtain⟨s,_,ho',⟨cs,el,fz,h1,_,h3⟩,_⟩:=hS.block hb ha hi
 obtain⟨v',e,r⟩:=h3 o v hc
 refine⟨v',?_,r⟩
 have e2:(a'.add j).block=a'.block∧(a'.add j).off=a'.off+j∧(a'.add j).spot=none:=by
  unfold Addr.add;split
  ·rename_i hj;exact⟨rfl,by omega,ha.spot'⟩
  ·exact⟨rfl,rfl,rfl⟩
 rw[jC e2.2.2 (by rw[e2.1];exact h1),e2.2.1,ho',show s+a.off+j=s+o by omega]
 exact e
theorem bh.Ey (hS:bh Γ W h w) {i:Nat} {c:PT Value} {ro:Bool} (hb:h.get i=some (.cells c ro)) {v:Value}
  {a a':Addr} (hc:c.get a.off=some v) (ha:Γ.addr a a') (hi:a.block=i):∃ v',w.cell? a'=some v'∧aA Γ v v':=by
 obtain⟨v',e,r⟩:=hS.cell hb hc ha hi (j:=0) rfl
 exact⟨v',by simpa [Addr.add] using e,r⟩
theorem bh.frozen (hS:bh Γ W h w) {i:Nat} {c:PT Value} (hb:h.get i=some (.cells c false)) {a a':Addr} (ha:Γ.addr a a') (hi:a.block=i) (j:Nat):w.frozen? (a'.add j)=false:=by
 obtain⟨s,_,ho',⟨cs,el,fz,h1,h2,h3⟩,_⟩:=hS.block hb ha hi
 obtain rfl:=h2 rfl
 have e2:(a'.add j).block=a'.block:=by unfold Addr.add;split<;>rfl
 simp[World.frozen?,e2,h1]
theorem iu {w:World} {a:Addr} {v:Value} {b:Nat} (hb:b≠a.block):(w.setCell a v).heap[b]? = w.heap[b]? := by
 simp only[World.setCell,Array.getElem?_modify]
 rw[if_neg (Ne.symm hb)]
theorem heap_setCell_same {w:World} {a:Addr} {v:Value} {cs:Array Value} {el:TypeId} {fz:Nat×Nat} (hs:a.spot=none) (h:w.heap[a.block]? = some (.cells cs el fz)):
  (w.setCell a v).heap[a.block]? = some (.cells (cs.setIfInBounds a.off v) el fz):=by
 simp[World.setCell,Array.getElem?_modify,h,hs]
theorem qd {w:World} (hz:∀ b n,Γ.gG b=some n→∃ c el fz,w.heap[b]? = some (.cells c el fz)∧c.size=n) {a:Addr} (hs:a.spot=none) (v:Value):
  ∀ b n,Γ.gG b=some n→∃ c el fz,(w.setCell a v).heap[b]? = some (.cells c el fz)∧c.size=n:=by
 intro b n hb
 obtain⟨c,el,fz,h1,h2⟩:=hz b n hb
 by_cases Ij:b=a.block
 ·subst Ij
  exact⟨_,el,fz,heap_setCell_same hs h1,by simpa using h2⟩
 ·exact⟨c,el,fz,(iu Ij).trans h1,h2⟩
theorem lE {h:PT ak} (hR:∀ i c ro,h.get i=some (.cells c ro)→∃ L,c = .ofList .leaf 0 L) {j:Nat} {B:Option ak} (hB:∀ c ro,B=some (.cells c ro)→∃ L,c = .ofList .leaf 0 L):
  ∀ i c ro,(h.set j B).get i=some (.cells c ro)→∃ L,c = .ofList .leaf 0 L:=by
 intro i c ro e
 rw[PT.aZ] at e
 split at e
 ·exact hB c ro e
 ·exact hR i c ro e
theorem Ez {h:PT ak} (hR:∀ i c ro,h.get i=some (.cells c ro)→∃ L,c = .ofList .leaf 0 L) {j:Nat} {c:PT Value} {ro Ik:Bool} (hb:h.get j=some (.cells c ro)) {o:Nat} {v:Value} (hc:(c.get o).isSome):
  ∀ i c' r',(h.set j (some (.cells (c.set o (some v)) Ik))).get i=some (.cells c' r')→∃ L,c' = .ofList .leaf 0 L:=by
 refine lE hR fun c' r' e=>?_
 obtain⟨L,rfl⟩:=hR j c ro hb
 rw[PT.aI] at hc
 have ho:o<L.length:=by
  rcases Nat.lt_or_ge o L.length with q |q
  ·exact q
  ·rw[List.getElem?_eq_none q] at hc;simp at hc
 obtain⟨rfl,_⟩:=ak.cells.inj (Option.some.inj e)
 exact⟨L.set o v,mJ L o v ho⟩
theorem bh.setCell (hS:bh Γ W h w) {i:Nat} {c:PT Value} (hb:h.get i=some (.cells c false)) {a a':Addr} (ha:Γ.addr a a') (hi:a.block=i)
  {v v':Value} (hv:aA Γ v v') (hc:(c.get a.off).isSome):bh Γ W (h.set i (some (.cells (c.set a.off (some v)) false))) (w.setCell a' v'):=by
 obtain⟨s,hblk,ho',⟨cs,el,fz,h1,h2,h3⟩,hw⟩:=hS.block hb ha hi
 obtain rfl:=h2 rfl
 have fP:=hw rfl
 refine⟨hS.below.setCell fP _,fun x hx=>(World.frozen?_setCell _ _ _ _).trans (hS.fz x hx),?_,?_,?_,qd hS.gG ha.spot' _,hS.fin,Ez hS.rows hb hc⟩
 ·intro j B hj
  rw[PT.aZ] at hj
  by_cases hji:j=i
  ·subst hji
   rw[if_pos rfl] at hj
   obtain rfl:ak.cells (c.set a.off (some v)) false=B:=by simpa using hj
   refine⟨a'.block,s,hblk,⟨_,el,(0,0),heap_setCell_same ha.spot' h1,fun _=>rfl,?_⟩,fun _=>fP⟩
   intro k u hu
   rw[PT.aZ] at hu
   by_cases hk:k=a.off
   ·subst hk
    rw[if_pos rfl] at hu
    obtain rfl:v=u:=by simpa using hu
    obtain⟨u0,hu0⟩:=Option.isSome_iff_exists.1 hc
    obtain⟨x,hx,_⟩:=h3 _ _ hu0
    have hlt:s+a.off<cs.size:=by
     rcases Nat.lt_or_ge (s+a.off) cs.size with hlt |hge
     ·exact hlt
     ·simp[Array.getElem?_eq_none hge] at hx
    exact⟨v',by rw[ho'];simp[hlt],hv⟩
   ·rw[if_neg hk] at hu
    obtain⟨x,hx,r⟩:=h3 k u hu
    exact⟨x,by rw[ho',Array.getElem?_setIfInBounds_ne (by omega)];exact hx,r⟩
  ·rw[if_neg hji] at hj
   obtain⟨b,s',hb',hB,hw'⟩:=hS.live j B hj
   have hne:=hS.j6 i j _ B a'.block s b s' (Ne.symm hji) hb hj hblk hb' rfl
   exact⟨b,s',hb',hB.world (iu (Ne.symm hne)),hw'⟩
 ·intro x y B B' b s1 b' s2 hxy hx hy e1 e2 hB
  rw[PT.aZ] at hx hy
  have key:∀ z C,(if z=i then some (ak.cells (c.set a.off (some v)) false) else h.get z)=some C→∃ C',h.get z=some C'∧(C.cA→C'.cA):=by
   intro z C hz
   by_cases RZ:z=i
   ·subst RZ;rw[if_pos rfl] at hz;exact⟨_,hb,fun _=>rfl⟩
   ·rw[if_neg RZ] at hz;exact⟨C,hz,id⟩
  obtain⟨C,hC,hCw⟩:=key x B hx
  obtain⟨C',hC',_⟩:=key y B' hy
  exact hS.j6 x y C C' b s1 b' s2 hxy hC hC' e1 e2 (hCw hB)
 ·intro j b s' hj
  simpa [World.setCell] using hS.dom j b s' hj
theorem bh.xy (hS:bh Γ W h w) {a':Addr} (hs:a'.spot=none) (v':Value) (fP:W.heap.size≤a'.block)
  (hfree:∀ j B b s,h.get j=some B→Γ.blk j=some (b,s)→b≠a'.block):bh Γ W h (w.setCell a' v'):=by
 refine⟨hS.below.setCell fP _,fun x hx=>(World.frozen?_setCell _ _ _ _).trans (hS.fz x hx),?_,hS.j6,?_,qd hS.gG hs _,hS.fin,hS.rows⟩
 ·intro j B hj
  obtain⟨b,s,e,hB,hw⟩:=hS.live j B hj
  exact⟨b,s,e,hB.world (iu (hfree j B b s hj e)),hw⟩
 ·intro j b s' hj
  simpa [World.setCell] using hS.dom j b s' hj
theorem bh.kill (hS:bh Γ W h w) (i:Nat):bh Γ W (h.set i none) w:=by
 refine⟨hS.below,hS.fz,?_,?_,hS.dom,hS.gG,hS.fin,lE hS.rows (fun c ro e=>by simp at e)⟩
 ·intro j B hj
  rw[PT.aZ] at hj
  by_cases hji:j=i
  ·rw[if_pos hji] at hj;simp at hj
  ·rw[if_neg hji] at hj;exact hS.live j B hj
 ·intro x y B B' b s1 b' s2 hxy hx hy
  rw[PT.aZ] at hx hy
  by_cases zF:x=i
  ·rw[if_pos zF] at hx;simp at hx
  ·by_cases hyi:y=i
   ·rw[if_pos hyi] at hy;simp at hy
   ·rw[if_neg zF] at hx;rw[if_neg hyi] at hy;exact hS.j6 x y B B' b s1 b' s2 hxy hx hy
def br.ext (Γ:br) (n b s:Nat) (z:Nat→Option Nat):br:=⟨fun i=>if i=n then some (b,s) else Γ.blk i,z⟩
theorem br.vB (Γ:br) {n b s:Nat} {z:Nat→Option Nat} (hn:Γ.blk n=none) (hz:∀ b m,Γ.gG b=some m→z b=some m):Γ.le (Γ.ext n b s z):=
 ⟨fun i x e=>by
  have:i≠n:=fun e'=>by rw[e',hn] at e;simp at e
  simp[br.ext,this,e],hz⟩
theorem heap_alloc_new (w:World) (o:Obj):(w.alloc o).heap[w.heap.size]? = some o:=by
 show (w.heap.push o)[w.heap.size]? = _
 simp
theorem cS {w:World} {b:Nat} {o:Obj} (h:w.heap[b]? = some o):b<w.heap.size:=by
 rcases Nat.lt_or_ge b w.heap.size with hlt |hge
 ·exact hlt
 ·simp[Array.getElem?_eq_none hge] at h
theorem bh.BK (hS:bh Γ W h w):Γ.gG w.heap.size=none:=by
 cases hz:Γ.gG w.heap.size with
 |none=>rfl
 |some m=>obtain⟨c,e,f,h1,_⟩:=hS.gG _ _ hz;exact absurd (cS h1) (by omega)
theorem br.BL {n b s:Nat} {z:Nat→Option Nat} (h:∃ N,∀ i,N≤i→Γ.blk i=none):∃ N,∀ i,N≤i→(Γ.ext n b s z).blk i=none:=by
 obtain⟨N,hN⟩:=h
 refine⟨max N (n+1),fun i hi=>?_⟩
 have h1:i≠n:=by omega
 simp[br.ext,h1,hN i (by omega)]
theorem bh.xA (hS:bh Γ W h w) {n:Nat} (hn:Γ.blk n=none) (o:Obj) (B:ak) (z:Nat→Option Nat)
  (hz:∀ b m,Γ.gG b=some m→z b=some m) (hzn:∀ b m,z b=some m→b≠w.heap.size→Γ.gG b=some m)
  (hzo:∀ m,z w.heap.size=some m→∃ c el fz,o = .cells c el fz∧c.size=m)
  (hf:∀ a,(w.alloc o).frozen? a=w.frozen? a) (hR:∀ c ro,B = .cells c ro→∃ L,c = .ofList .leaf 0 L) (hB:j5 (Γ.ext n w.heap.size 0 z) (w.alloc o) B w.heap.size 0):
  bh (Γ.ext n w.heap.size 0 z) W (h.set n (some B)) (w.alloc o):=by
 have hle:Γ.le (Γ.ext n w.heap.size 0 z):=Γ.vB hn hz
 have hold:∀ b,b<w.heap.size→(w.alloc o).heap[b]? = w.heap[b]? := fun b hb=>Below.heap_alloc w _ b hb
 refine⟨hS.below.alloc hS.below.size _,fun a ha=>(hf a).trans (hS.fz a ha),?_,?_,?_,?_,br.BL hS.fin,lE hS.rows fun c ro e=>hR c ro (by simpa using e)⟩
 ·intro j C hj
  rw[PT.aZ] at hj
  by_cases hjn:j=n
  ·subst hjn
   rw[if_pos rfl] at hj
   obtain rfl:B=C:=by simpa using hj
   exact⟨w.heap.size,0,by simp[br.ext],hB,fun _=>hS.below.size⟩
  ·rw[if_neg hjn] at hj
   obtain⟨b,s,e,hB,hw⟩:=hS.live j C hj
   exact⟨b,s,hle.blk _ _ e,(hB.world (hold b (hS.dom _ _ _ e))).mono hle,hw⟩
 ·intro x y C C' b s1 b' s2 hxy hx hy e1 e2 hC
  rw[PT.aZ] at hx hy
  by_cases Qn:x=n
  ·subst Qn
   rw[if_neg (Ne.symm hxy)] at hy
   obtain⟨b0,s0,e0,_,_⟩:=hS.live y C' hy
   have R1:=hle.blk _ _ e0
   rw[e2] at R1
   obtain⟨rfl,rfl⟩:b'=b0∧s2=s0:=by simpa using R1
   have:=hS.dom _ _ _ e0
   have CD:some (w.heap.size,0)=some (b,s1):=by simpa [br.ext] using e1
   obtain⟨rfl,rfl⟩:w.heap.size=b∧0=s1:=by simpa using CD
   omega
  ·rw[if_neg Qn] at hx
   obtain⟨b0,s0,e0,_,_⟩:=hS.live x C hx
   have R1:=hle.blk _ _ e0
   rw[e1] at R1
   obtain⟨rfl,rfl⟩:b=b0∧s1=s0:=by simpa using R1
   have hlt:=hS.dom _ _ _ e0
   by_cases Qo:y=n
   ·subst Qo
    have Qp:some (w.heap.size,0)=some (b',s2):=by simpa [br.ext] using e2
    obtain⟨rfl,rfl⟩:w.heap.size=b'∧0=s2:=by simpa using Qp
    omega
   ·rw[if_neg Qo] at hy
    obtain⟨b1,s1',CD,_,_⟩:=hS.live y C' hy
    have Qp:=hle.blk _ _ CD
    rw[e2] at Qp
    obtain⟨rfl,rfl⟩:b'=b1∧s2=s1':=by simpa using Qp
    exact hS.j6 x y C C' _ _ _ _ hxy hx hy e0 CD hC
 ·intro i b s e
  have:(w.alloc o).heap.size=w.heap.size+1:=by simp
  by_cases hin:i=n
  ·subst hin
   have CD:some (w.heap.size,0)=some (b,s):=by simpa [br.ext] using e
   obtain⟨rfl,rfl⟩:w.heap.size=b∧0=s:=by simpa using CD
   omega
  ·have:=hS.dom i b s (by simpa [br.ext,hin] using e)
   omega
 ·intro b m e
  by_cases hb:b=w.heap.size
  ·subst hb
   obtain⟨c,el,fz,rfl,hc⟩:=hzo m e
   exact⟨c,el,fz,heap_alloc_new _ _,hc⟩
  ·obtain⟨c,e',f,h1,h2⟩:=hS.gG b m (hzn b m e hb)
   exact⟨c,e',f,(hold b (cS h1)).trans h1,h2⟩
structure br.Step (Γ aS:br) (n:Nat):Prop where
 le:Γ.le aS
 out:∀ i,i≠n→aS.blk i=Γ.blk i
theorem bh.j7 (hS:bh Γ W h w) {n:Nat} (hn:Γ.blk n=none) (l:List Value) (cs:Array Value) (el:TypeId)
  (hl:∀ (i:Nat) (v:Value),l[i]? = some v→∃ v',cs[i]? = some v'∧aA Γ v v'):
  ∃ aS,Γ.Step aS n∧aS.blk n=some (w.heap.size,0)∧aS.gG w.heap.size=some cs.size∧
   bh aS W (h.set n (some (.cells (PT.ofList .leaf 0 l) false))) (w.alloc (.cells cs el)):=by
 have CF:=hS.BK
 let z:Nat→Option Nat:=fun b=>if b=w.heap.size then some cs.size else Γ.gG b
 have xB:∀ b m,Γ.gG b=some m→z b=some m:=by
  intro b m e
  have:b≠w.heap.size:=fun e'=>by rw[e',CF] at e;simp at e
  simp[z,this,e]
 have hle:Γ.le (Γ.ext n w.heap.size 0 z):=Γ.vB hn xB
 refine⟨Γ.ext n w.heap.size 0 z,⟨hle,fun i hi=>by simp[br.ext,hi]⟩,by simp[br.ext],by simp[br.ext,z],?_⟩
 refine hS.xA hn _ _ z xB (fun b m e hb=>by simpa [z,hb] using e) (fun m e=>⟨cs,el,(0,0),rfl,by simpa [z] using e⟩) (frozen?_alloc_cells w cs el) (fun c ro e=>⟨l,(ak.cells.inj e).1.symm⟩) ?_
 refine⟨cs,el,(0,0),heap_alloc_new _ _,fun _=>rfl,fun i v hv=>?_⟩
 rw[PT.aI] at hv
 obtain⟨v',e,r⟩:=hl i v hv
 exact⟨v',by simpa using e,r.mono hle⟩
def cT:Obj→Bool
 | .cells .. => false
 | _=>true
theorem ni (w:World) (o:Obj) (ho:cT o=true) (a:Addr):(w.alloc o).frozen? a=w.frozen? a:=by
 by_cases h:a.block=w.heap.size
 ·have e1:(w.alloc o).heap[a.block]? = some o:=by rw[h];exact heap_alloc_new _ _
  have e2:w.heap[a.block]? = none:=by rw[h];simp
  cases o<;>first | (simp[cT] at ho;done) |simp[World.frozen?,e1,e2]
 ·exact World.frozen?_alloc_old _ _ _ h
theorem bh.gL (hS:bh Γ W h w) {n:Nat} (hn:Γ.blk n=none) (o:Obj) (B:ak) (ho:cT o=true)
  (hB:∀ (aS:br) (w':World),Γ.le aS→w'.heap[w.heap.size]? = some o→j5 aS w' B w.heap.size 0):
  ∃ aS,Γ.Step aS n∧aS.blk n=some (w.heap.size,0)∧bh aS W (h.set n (some B)) (w.alloc o):=by
 have CF:=hS.BK
 have hle:Γ.le (Γ.ext n w.heap.size 0 Γ.gG):=Γ.vB hn fun _ _ h=>h
 refine⟨Γ.ext n w.heap.size 0 Γ.gG,⟨hle,fun i hi=>by simp[br.ext,hi]⟩,by simp[br.ext],?_⟩
 exact hS.xA hn _ _ Γ.gG (fun _ _ h=>h) (fun b m e _=>e) (fun m e=>by rw[CF] at e;simp at e) (ni w o ho) (fun c ro e=>by
  subst e
  obtain⟨cs,el,fz,q,_⟩:=hB _ _ hle (heap_alloc_new w o)
  rw[heap_alloc_new] at q
  rw[Option.some.inj q] at ho;simp[cT] at ho) (hB _ _ hle (heap_alloc_new _ _))
theorem bh.view (hS:bh Γ W h w) {n:Nat} (hn:Γ.blk n=none) (l:List Value) {b s:Nat} {cs:Array Value} {el:TypeId} (hb:w.heap[b]? = some (.cells cs el (0,0)))
  (fP:W.heap.size≤b) (hfree:∀ j B b' s',h.get j=some B→Γ.blk j=some (b',s')→b'≠b)
  (hl:∀ (i:Nat) (v:Value),l[i]? = some v→∃ v',cs[s+i]? = some v'∧aA Γ v v'):
  ∃ aS,Γ.Step aS n∧aS.blk n=some (b,s)∧bh aS W (h.set n (some (.cells (PT.ofList .leaf 0 l) false))) w:=by
 have hle:Γ.le (Γ.ext n b s Γ.gG):=Γ.vB hn fun _ _ h=>h
 refine⟨Γ.ext n b s Γ.gG,⟨hle,fun i hi=>by simp[br.ext,hi]⟩,by simp[br.ext],hS.below,hS.fz,?_,?_,?_,hS.gG,br.BL hS.fin,lE hS.rows fun c ro e=>⟨l,by simpa using (ak.cells.inj (Option.some.inj e)).1.symm⟩⟩
 ·intro j C hj
  rw[PT.aZ] at hj
  by_cases hjn:j=n
  ·subst hjn
   rw[if_pos rfl] at hj
   obtain rfl:ak.cells (PT.ofList .leaf 0 l) false=C:=by simpa using hj
   refine⟨b,s,by simp[br.ext],⟨cs,el,(0,0),hb,fun _=>rfl,fun i v hv=>?_⟩,fun _=>fP⟩
   rw[PT.aI] at hv
   obtain⟨v',e,r⟩:=hl i v hv
   exact⟨v',e,r.mono hle⟩
  ·rw[if_neg hjn] at hj
   obtain⟨b',s',e,hB,hw⟩:=hS.live j C hj
   exact⟨b',s',hle.blk _ _ e,hB.mono hle,hw⟩
 ·intro x y C C' b1 s1 b2 s2 hxy hx hy e1 e2 hC
  rw[PT.aZ] at hx hy
  by_cases Qn:x=n
  ·subst Qn
   rw[if_neg (Ne.symm hxy)] at hy
   have CD:some (b,s)=some (b1,s1):=by simpa [br.ext] using e1
   obtain⟨rfl,rfl⟩:b=b1∧s=s1:=by simpa using CD
   exact Ne.symm (hfree y C' b2 s2 hy (by simpa [br.ext,Ne.symm hxy] using e2))
  ·rw[if_neg Qn] at hx
   have CD:Γ.blk x=some (b1,s1):=by simpa [br.ext,Qn] using e1
   by_cases Qo:y=n
   ·subst Qo
    have Qp:some (b,s)=some (b2,s2):=by simpa [br.ext] using e2
    obtain⟨rfl,rfl⟩:b=b2∧s=s2:=by simpa using Qp
    exact hfree x C b1 s1 hx CD
   ·rw[if_neg Qo] at hy
    exact hS.j6 x y C C' _ _ _ _ hxy hx hy CD (by simpa [br.ext,Qo] using e2) hC
 ·intro i b1 s1 e
  by_cases hin:i=n
  ·subst hin
   have CD:some (b,s)=some (b1,s1):=by simpa [br.ext] using e
   obtain⟨rfl,rfl⟩:b=b1∧s=s1:=by simpa using CD
   exact cS hb
  ·exact hS.dom i b1 s1 (by simpa [br.ext,hin] using e)
theorem bh.rP (hS:bh Γ W h w) {i:Nat} {B B':ak} (hb:h.get i=some B) {r:Nat} (hr:Γ.blk i=some (r,0)) {o:Obj} (hwr:B.cA) (ajS:B'.cA)
  (hold:∀ w',j5 Γ w' B r 0→∃ o',w'.heap[r]? = some o'∧cT o'=true) (hno:cT o=true)
  (he:∀ w':World,w'.heap[r]? = some o→j5 Γ w' B' r 0):
  bh Γ W (h.set i (some B')) { w with heap:=w.heap.setIfInBounds r o }:=by
 obtain⟨b,s,e,Il,hw⟩:=hS.live i _ hb
 rw[hr] at e
 obtain⟨rfl,rfl⟩:r=b∧0=s:=by simpa using e
 obtain⟨o',h1,MY⟩:=hold _ Il
 have fP:=hw hwr
 have hne:∀ k,k≠r→(w.heap.setIfInBounds r o)[k]? = w.heap[k]? := fun k hk=>by rw[Array.getElem?_setIfInBounds_ne (Ne.symm hk)]
 have hsame:(w.heap.setIfInBounds r o)[r]? = some o:=by simp[cS h1]
 have hnf:∀ a,World.frozen? { w with heap:=w.heap.setIfInBounds r o } a=w.frozen? a:=by
  intro a
  by_cases ha:a.block=r
  ·cases o<;>cases o'<;>first | (simp[cT] at hno;done) | (simp[cT] at MY;done) |simp only[World.frozen?,ha,hsame,h1]
  ·simp only[World.frozen?,hne _ ha]
 refine⟨hS.below.trans ⟨rfl,rfl,rfl,by simp,fun k hk=>hne k (by omega)⟩,fun a ha=>(hnf a).trans (hS.fz a ha),?_,?_,?_,?_,hS.fin,lE hS.rows fun c ro e=>by
  obtain rfl:=Option.some.inj e
  obtain⟨cs,el,fz,q,_⟩:=he { w with heap:=w.heap.setIfInBounds r o } hsame
  rw[show ({ w with heap:=w.heap.setIfInBounds r o }:World).heap=w.heap.setIfInBounds r o from rfl,hsame] at q
  rw[Option.some.inj q] at hno;simp[cT] at hno⟩
 ·intro j C hj
  rw[PT.aZ] at hj
  by_cases hji:j=i
  ·subst hji
   rw[if_pos rfl] at hj
   obtain rfl:B'=C:=by simpa using hj
   exact⟨r,0,hr,he _ hsame,fun _=>fP⟩
  ·rw[if_neg hji] at hj
   obtain⟨b,s',hb',hB,hw'⟩:=hS.live j C hj
   have aao:=hS.j6 i j _ C r 0 b s' (Ne.symm hji) hb hj hr hb' hwr
   exact⟨b,s',hb',hB.world (hne b (Ne.symm aao)),hw'⟩
 ·intro x y C C' b s1 b' s2 hxy hx hy e1 e2 hB
  rw[PT.aZ] at hx hy
  have key:∀ z C,(if z=i then some B' else h.get z)=some C→∃ C',h.get z=some C'∧(C.cA→C'.cA):=by
   intro z C hz
   by_cases RZ:z=i
   ·subst RZ;rw[if_pos rfl] at hz;exact⟨_,hb,fun _=>hwr⟩
   ·rw[if_neg RZ] at hz;exact⟨C,hz,id⟩
  obtain⟨C1,hC,hCw⟩:=key x C hx
  obtain⟨C1',hC',_⟩:=key y C' hy
  exact hS.j6 x y C1 C1' b s1 b' s2 hxy hC hC' e1 e2 (hCw hB)
 ·intro j b s' hj
  simpa using hS.dom j b s' hj
 ·intro b n R2
  obtain⟨c,el,fz,h2,h3⟩:=hS.gG b n R2
  have:b≠r:=fun e=>by rw[e,h1] at h2;simp at h2;rw[h2] at MY;simp[cT] at MY
  exact⟨c,el,fz,(hne b this).trans h2,h3⟩
theorem bh.zO (hS:bh Γ W h w) {i:Nat} {es es':List (Value×Value×Nat)} {clk R3:Nat} (hb:h.get i=some (.map es clk)) {r:Nat} (hr:Γ.blk i=some (r,0))
  (aU:Array MapEntry) (he:bF Γ es' aU.toList):
  bh Γ W (h.set i (some (.map es' R3))) { w with heap:=w.heap.setIfInBounds r (.map aU R3) }:=
 hS.rP hb hr trivial trivial (fun w' ⟨_,aU,h1,_⟩=>⟨_,h1,rfl⟩) rfl fun w' h1=>⟨rfl,aU,h1,he⟩
end
section
variable (P:Program)
def aj {α β:Type} (Γ:br) (W:World) (h:PT ak) (n:Nat) (w:World) (m:AP α) (e:Sem β) (R:br→α→β→Prop):Prop:=
 ∀ lim rd wr a s',m.run lim ⟨h,n,rd,wr⟩ = .ok a s'→(∀ i,n≤i→i<s'.next→Γ.blk i=none)→
  ∃ aS w' b,e.run P w = .ok b w'∧Γ.le aS∧bh aS W s'.heap w'∧(∀ i,¬(n≤i∧i<s'.next)→aS.blk i=Γ.blk i)∧R aS a b
def fD {α β:Type} (Γ:br) (m:AP α) (e:Sem β) (R:br→α→β→Prop):Prop:=
 ∀ W h n w,bh Γ W h w→aj P Γ W h n w m e R
variable {P}
variable {α β:Type} {Γ:br} {W:World} {h:PT ak} {n:Nat} {w:World} {R:br→α→β→Prop}
theorem AP.i_ {α:Type} (lim:Nat):∀ (m:AP α) (s:HS) (a:α) (s':HS),m.run lim s = .ok a s'→s.next≤s'.next
 | .pure a,s,_,s',e=>by simp[AP.run] at e;rw[←e.2];exact Nat.le_refl _
 | .fail _,s,_,s',e=>by simp[AP.run] at e
 | .get id k,s,a,s',e=>by
  simp only[AP.run] at e
  split at e
  ·simp at e
  ·refine Nat.le_trans ?_ (AP.i_ lim _ _ _ _ e);cases Nat.blt id lim<;>exact Nat.le_refl _
 | .set id b k,s,a,s',e=>by
  simp only[AP.run] at e
  split at e
  ·simp at e
  ·refine Nat.le_trans ?_ (AP.i_ lim _ _ _ _ e);cases Nat.blt id lim<;>exact Nat.le_refl _
 | .kill id k,s,a,s',e=>by
  simp only[AP.run] at e
  split at e
  ·simp at e
  ·refine Nat.le_trans ?_ (AP.i_ lim _ _ _ _ e);cases Nat.blt id lim<;>exact Nat.le_refl _
 | .new b k,s,a,s',e=>by
  simp only[AP.run] at e
  refine Nat.le_trans ?_ (AP.i_ lim _ _ _ _ e);exact Nat.le_succ _
theorem AP.run_bind {α β:Type} (lim:Nat) (f:α→AP β):∀ (m:AP α) (s:HS),(m.bind f).run lim s=match m.run lim s with | .ok a s=>(f a).run lim s | .fail w => .fail w
 | .pure a,s=>rfl
 | .fail _,s=>rfl
 | .get id k,s=>by
  simp only[AP.bind,AP.run];split
  ·rfl
  ·exact AP.run_bind lim f _ _
 | .set id b k,s=>by
  simp only[AP.bind,AP.run];split
  ·rfl
  ·exact AP.run_bind lim f _ _
 | .kill id k,s=>by
  simp only[AP.bind,AP.run];split
  ·rfl
  ·exact AP.run_bind lim f _ _
 | .new b k,s=>by simp only[AP.bind,AP.run];exact AP.run_bind lim f _ _
theorem aj.fail {why:String} {e:Sem β}:aj P Γ W h n w (.fail why:AP α) e R:=by
 intro lim rd wr a s' hr;simp[AP.run] at hr
theorem aj.ok (hS:bh Γ W h w) {a:α} {e:Sem β} {b:β} (he:e.run P w = .ok b w) (hR:R Γ a b):aj P Γ W h n w (.pure a) e R:=by
 intro lim rd wr a' s' hr _
 simp only[AP.run,aH.ok.injEq] at hr
 obtain⟨rfl,rfl⟩:=hr
 exact⟨Γ,w,b,he,.refl _,hS,fun _ _=>rfl,hR⟩
theorem aj.get {id:Nat} {k:ak→AP α} {e:Sem β} (hk:∀ B,h.get id=some B→aj P Γ W h n w (k B) e R):aj P Γ W h n w (.get id k) e R:=by
 intro lim rd wr a s' hr hf
 simp only[AP.run] at hr
 split at hr
 ·simp at hr
 ·rename_i B hB
  cases hb:Nat.blt id lim with
  |true=>rw[hb] at hr;exact hk B hB lim _ _ a s' hr hf
  |false=>rw[hb] at hr;exact hk B hB lim _ _ a s' hr hf
theorem aj.set {id:Nat} {B:ak} {k:AP α} {e e':Sem β} {w':World} (he:e.run P w=e'.run P w') (hk:aj P Γ W (h.set id (some B)) n w' k e' R):
  aj P Γ W h n w (.set id B k) e R:=by
 intro lim rd wr a s' hr hf
 simp only[AP.run] at hr
 split at hr
 ·simp at hr
 ·rw[he]
  cases hb:Nat.blt id lim with
  |true=>rw[hb] at hr;exact hk lim _ _ a s' hr hf
  |false=>rw[hb] at hr;exact hk lim _ _ a s' hr hf
theorem aj.kill {id:Nat} {k:AP α} {e:Sem β} (hk:aj P Γ W (h.set id none) n w k e R):aj P Γ W h n w (.kill id k) e R:=by
 intro lim rd wr a s' hr hf
 simp only[AP.run] at hr
 split at hr
 ·simp at hr
 ·cases hb:Nat.blt id lim with
  |true=>rw[hb] at hr;exact hk lim _ _ a s' hr hf
  |false=>rw[hb] at hr;exact hk lim _ _ a s' hr hf
theorem aj.new {B:ak} {k:Nat→AP α} {e:Sem β}
  (hk:Γ.blk n=none→∃ (cB:br) (w₁:World) (e':Sem β),Γ.Step cB n∧e.run P w=e'.run P w₁∧aj P cB W (h.set n (some B)) (n+1) w₁ (k n) e' R):
  aj P Γ W h n w (.new B k) e R:=by
 intro lim rd wr a s' hr hf
 simp only[AP.run] at hr
 have hle:=AP.i_ lim _ _ _ _ hr
 have hle':n+1≤s'.next:=hle
 obtain⟨cB,w₁,e',hst,he,hs⟩:=hk (hf n (Nat.le_refl _) (by omega))
 obtain⟨aS,w',b,h1,h2,h3,h4,h5⟩:=hs lim _ _ a s' hr (fun i hi hi'=>by rw[hst.out i (by omega)];exact hf i (by omega) hi')
 refine⟨aS,w',b,he.trans h1,hst.le.trans h2,h3,fun i hi=>?_,h5⟩
 rw[h4 i (by omega),hst.out i (by omega)]
theorem aj.congr {m:AP α} {e e':Sem β} {w':World} (he:e.run P w=e'.run P w') (hk:aj P Γ W h n w' m e' R):aj P Γ W h n w m e R:=by
 intro lim rd wr a s' hr hf
 rw[he]
 exact hk lim rd wr a s' hr hf
theorem aj.bind {γ δ:Type} {m:AP α} {f:α→AP γ} {e:Sem β} {g:β→Sem δ} {R':br→γ→δ→Prop}
  (hm:aj P Γ W h n w m e R) (hf:∀ aS a b,Γ.le aS→R aS a b→fD P aS (f a) (g b) R'):aj P Γ W h n w (m.bind f) (e >>= g) R':=by
 intro lim rd wr a s' hr hfree
 rw[AP.run_bind] at hr
 split at hr
 ·rename_i a₁ s₁ Lw
  have hle:=AP.i_ lim _ _ _ _ Lw
  have hle':=AP.i_ lim _ _ _ _ hr
  have hle:n≤s₁.next:=hle
  obtain⟨cB,w₁,b₁,h1,h2,h3,h4,h5⟩:=hm lim rd wr a₁ s₁ Lw (fun i hi hi'=>hfree i hi (by omega))
  obtain⟨aS,w',b,k1,k2,k3,k4,k5⟩:=hf cB a₁ b₁ h2 h5 W s₁.heap s₁.next w₁ h3 lim s₁.rd s₁.wr a s' hr (fun i hi hi'=>by
   rw[h4 i (by omega)];exact hfree i (by omega) hi')
  refine⟨aS,w',b,?_,h2.trans k2,k3,fun i hi=>?_,k5⟩
  ·rw[Sem.run_bind,h1];exact k1
  ·rw[k4 i (by omega),h4 i (by omega)]
 ·simp at hr
theorem aj.mono {m:AP α} {e:Sem β} {R':br→α→β→Prop} (hm:aj P Γ W h n w m e R) (hR:∀ aS a b,R aS a b→R' aS a b):aj P Γ W h n w m e R':=by
 intro lim rd wr a s' hr hf
 obtain⟨aS,w',b,h1,h2,h3,h4,h5⟩:=hm lim rd wr a s' hr hf
 exact⟨aS,w',b,h1,h2,h3,h4,hR _ _ _ h5⟩
end
end Go.Am
