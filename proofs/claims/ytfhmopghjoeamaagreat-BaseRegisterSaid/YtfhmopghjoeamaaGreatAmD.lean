/-
  The abstract machine: when an abstract heap stands for the model's; what each access keeps; the simulation's word and its rules.
-/
import Derived.Test.YtfhmopghjoeamaaGreatAmC
set_option linter.unusedSimpArgs false
set_option linter.unusedVariables false
namespace Go.Am
open Go.RowKit
inductive bz (Γ:aV):List (Value×Value×Nat)→List MapEntry→Prop
 |nil:bz Γ [] []
 |cons (p:Value×Value×Nat) (e:MapEntry) (l:List (Value×Value×Nat)) (l':List MapEntry) (hk:ay Γ p.1 e.key) (hv:ay Γ p.2.1 e.val) (hb:p.2.2=e.born) (t:bz Γ l l'):bz Γ (p::l) (e::l')
theorem bz.mono {Γ aI:aV} (h:Γ.le aI):∀ {l:List (Value×Value×Nat)} {l':List MapEntry},bz Γ l l'→bz aI l l'
 | _,_,.nil => .nil
 | _,_,.cons p e _ _ hk hv hb t => .cons p e _ _ (hk.mono h) (hv.mono h) hb (bz.mono h t)
theorem bz.length {Γ:aV}:∀ {l:List (Value×Value×Nat)} {l':List MapEntry},bz Γ l l'→l'.length=l.length
 | _,_,.nil=>rfl
 | _,_,.cons _ _ _ _ _ _ _ t=>by simp[bz.length t]
theorem bz.append {Γ:aV}:∀ {l m:List (Value×Value×Nat)} {l' m':List MapEntry},bz Γ l l'→bz Γ m m'→bz Γ (l++m) (l'++m')
 | _,_,_,_,.nil,k=>k
 | _,_,_,_,.cons p e _ _ hk hv hb t,k => .cons p e _ _ hk hv hb (bz.append t k)
def aj.bO:aj→Prop
 | .cells _ ro=>ro=false
 | _=>True
def je (Γ:aV) (w:World):aj→Nat→Nat→Prop
 | .cells c ro,b,s=>∃ cs el fz,w.heap[b]? = some (.cells cs el fz)∧(ro=false→fz=(0,0))∧∀ i v,c.get i=some v→∃ v',cs[s+i]? = some v'∧ay Γ v v'
 | .map es clk,b,s=>s=0∧∃ aK,w.heap[b]? = some (.map aK clk)∧bz Γ es aK.toList
 | .iter m since seen stepped,b,s=>s=0∧∃ m',w.heap[b]? = some (.mapIter m' since ⟨seen⟩ stepped)∧(m=none→m'=none)∧∀ r,m=some r→∃ r',m'=some r'∧Γ.blk r=some (r',0)
 | .loop st fD tm ps as bd,b,s=>s=0∧∃ L:Loop,w.heap[b]? = some (.loop L)∧L.state=st∧L.pending=fD∧dU Γ tm L.tmps∧L.params.toList=ps∧L.assign=as∧L.body=bd
 | .deferred,b,s=>s=0∧w.heap[b]? = some (.deferred (some []))
theorem je.mono {Γ aI:aV} (h:Γ.le aI) {w:World} {B:aj} {b s:Nat} (k:je Γ w B b s):je aI w B b s:=by
 cases B with
 |cells c ro=>obtain⟨cs,el,fz,h1,h2,h3⟩:=k;exact⟨cs,el,fz,h1,h2,fun i v e=>let ⟨v',e',r⟩:=h3 i v e;⟨v',e',r.mono h⟩⟩
 |map es clk=>obtain⟨h0,aK,h1,h2⟩:=k;exact⟨h0,aK,h1,h2.mono h⟩
 |iter m since seen stepped=>obtain⟨h0,m',h1,h2,h3⟩:=k;exact⟨h0,m',h1,h2,fun r e=>let ⟨r',e',hb⟩:=h3 r e;⟨r',e',h.blk _ _ hb⟩⟩
 |loop st fD tm ps as bd=>obtain⟨h0,L,h1,h2,h3,h4,h5⟩:=k;exact⟨h0,L,h1,h2,h3,h4.mono h,h5⟩
 |deferred=>exact k
theorem je.world {Γ:aV} {w w':World} {B:aj} {b s:Nat} (k:je Γ w B b s) (h:w'.heap[b]? = w.heap[b]?):je Γ w' B b s:=by
 cases B with
 |cells c ro=>obtain⟨cs,el,fz,h1,h2,h3⟩:=k;exact⟨cs,el,fz,h.trans h1,h2,h3⟩
 |map es clk=>obtain⟨h0,aK,h1,h2⟩:=k;exact⟨h0,aK,h.trans h1,h2⟩
 |iter m since seen stepped=>obtain⟨h0,m',h1,h2⟩:=k;exact⟨h0,m',h.trans h1,h2⟩
 |loop st fD tm ps as bd=>obtain⟨h0,L,h1,h2⟩:=k;exact⟨h0,L,h.trans h1,h2⟩
 |deferred=>exact⟨k.1,h.trans k.2⟩
structure aR (Γ:aV) (W:World) (h:PT aj) (w:World):Prop where
 below:Below W.heap.size W w
 fz:∀ a,a.block<W.heap.size→w.frozen? a=W.frozen? a
 live:∀ i B,h.get i=some B→∃ b s,Γ.blk i=some (b,s)∧je Γ w B b s∧(B.bO→W.heap.size≤b)
 jf:∀ i j B B' b s b' s',i≠j→h.get i=some B→h.get j=some B'→Γ.blk i=some (b,s)→Γ.blk j=some (b',s')→B.bO→b≠b'
 dom:∀ i b s,Γ.blk i=some (b,s)→b<w.heap.size
 eT:∀ b n,Γ.eT b=some n→∃ c el fz,w.heap[b]? = some (.cells c el fz)∧c.size=n
 fin:∃ N,∀ i,N≤i→Γ.blk i=none
 rows:∀ i c ro,h.get i=some (.cells c ro)→∃ L,c = .ofList .leaf 0 L
section
variable {Γ:aV} {W w:World} {h:PT aj}
theorem aR.drew (hS:aR Γ W h w):aR Γ W h w.drew:=
 ⟨hS.below.drew,hS.fz,hS.live,hS.jf,hS.dom,hS.eT,hS.fin,hS.rows⟩
theorem iA {w:World} {a:Addr} {cs:Array Value} {el:TypeId} {fz:Nat×Nat} (hs:a.spot=none) (h:w.heap[a.block]? = some (.cells cs el fz)):w.cell? a=cs[a.off]? := by
 simp[World.cell?,h,hs]
theorem aR.block (hS:aR Γ W h w) {i:Nat} {B:aj} (hb:h.get i=some B) {a a':Addr} (ha:Γ.addr a a') (hi:a.block=i):∃ s,Γ.blk i=some (a'.block,s)∧a'.off=s+a.off∧je Γ w B a'.block s∧(B.bO→W.heap.size≤a'.block):=by
 obtain⟨s,e,o⟩:=ha.at_
 obtain⟨b,s',e',hB,hw⟩:=hS.live i B hb
 rw[hi] at e
 rw[e] at e'
 obtain⟨rfl,rfl⟩:a'.block=b∧s=s':=by simpa using e'
 exact⟨s,e,o,hB,hw⟩
theorem aR.cell (hS:aR Γ W h w) {i:Nat} {c:PT Value} {ro:Bool} (hb:h.get i=some (.cells c ro)) {o:Nat} {v:Value} (hc:c.get o=some v)
  {a a':Addr} (ha:Γ.addr a a') (hi:a.block=i) {j:Nat} (ho:a.off+j=o):∃ v',w.cell? (a'.add j)=some v'∧ay Γ v v':=by
 obtain⟨s,_,ho',⟨cs,el,fz,h1,_,h3⟩,_⟩:=hS.block hb ha hi
 obtain⟨v',e,r⟩:=h3 o v hc
 refine⟨v',?_,r⟩
 have e2:(a'.add j).block=a'.block∧(a'.add j).off=a'.off+j∧(a'.add j).spot=none:=by
  unfold Addr.add;split
  ·rename_i hj;exact⟨rfl,by omega,ha.spot'⟩
  ·exact⟨rfl,rfl,rfl⟩
 rw[iA e2.2.2 (by rw[e2.1];exact h1),e2.2.1,ho',show s+a.off+j=s+o by omega]
 exact e
theorem aR.Be (hS:aR Γ W h w) {i:Nat} {c:PT Value} {ro:Bool} (hb:h.get i=some (.cells c ro)) {v:Value}
  {a a':Addr} (hc:c.get a.off=some v) (ha:Γ.addr a a') (hi:a.block=i):∃ v',w.cell? a'=some v'∧ay Γ v v':=by
 obtain⟨v',e,r⟩:=hS.cell hb hc ha hi (j:=0) rfl
 exact⟨v',by simpa [Addr.add] using e,r⟩
theorem aR.frozen (hS:aR Γ W h w) {i:Nat} {c:PT Value} (hb:h.get i=some (.cells c false)) {a a':Addr} (ha:Γ.addr a a') (hi:a.block=i) (j:Nat):w.frozen? (a'.add j)=false:=by
 obtain⟨s,_,ho',⟨cs,el,fz,h1,h2,h3⟩,_⟩:=hS.block hb ha hi
 obtain rfl:=h2 rfl
 have e2:(a'.add j).block=a'.block:=by unfold Addr.add;split<;>rfl
 simp[World.frozen?,e2,h1]
theorem fQ {w:World} {a:Addr} {v:Value} {b:Nat} (hb:b≠a.block):(w.setCell a v).heap[b]? = w.heap[b]? := by
 simp only[World.setCell,Array.getElem?_modify]
 rw[if_neg (Ne.symm hb)]
theorem heap_setCell_same {w:World} {a:Addr} {v:Value} {cs:Array Value} {el:TypeId} {fz:Nat×Nat} (hs:a.spot=none) (h:w.heap[a.block]? = some (.cells cs el fz)):
  (w.setCell a v).heap[a.block]? = some (.cells (cs.setIfInBounds a.off v) el fz):=by
 simp[World.setCell,Array.getElem?_modify,h,hs]
theorem nW {w:World} (hz:∀ b n,Γ.eT b=some n→∃ c el fz,w.heap[b]? = some (.cells c el fz)∧c.size=n) {a:Addr} (hs:a.spot=none) (v:Value):
  ∀ b n,Γ.eT b=some n→∃ c el fz,(w.setCell a v).heap[b]? = some (.cells c el fz)∧c.size=n:=by
 intro b n hb
 obtain⟨c,el,fz,h1,h2⟩:=hz b n hb
 by_cases wm:b=a.block
 ·subst wm
  exact⟨_,el,fz,heap_setCell_same hs h1,by simpa using h2⟩
 ·exact⟨c,el,fz,(fQ wm).trans h1,h2⟩
theorem jN {h:PT aj} (hR:∀ i c ro,h.get i=some (.cells c ro)→∃ L,c = .ofList .leaf 0 L) {j:Nat} {B:Option aj} (hB:∀ c ro,B=some (.cells c ro)→∃ L,c = .ofList .leaf 0 L):
  ∀ i c ro,(h.set j B).get i=some (.cells c ro)→∃ L,c = .ofList .leaf 0 L:=by
 intro i c ro e
 rw[PT.aU] at e
 split at e
 ·exact hB c ro e
 ·exact hR i c ro e
theorem Bf {h:PT aj} (hR:∀ i c ro,h.get i=some (.cells c ro)→∃ L,c = .ofList .leaf 0 L) {j:Nat} {c:PT Value} {ro Mh:Bool} (hb:h.get j=some (.cells c ro)) {o:Nat} {v:Value} (hc:(c.get o).isSome):
  ∀ i c' r',(h.set j (some (.cells (c.set o (some v)) Mh))).get i=some (.cells c' r')→∃ L,c' = .ofList .leaf 0 L:=by
 refine jN hR fun c' r' e=>?_
 obtain⟨L,rfl⟩:=hR j c ro hb
 rw[PT.aF] at hc
 have ho:o<L.length:=by
  rcases Nat.lt_or_ge o L.length with q |q
  ·exact q
  ·rw[List.getElem?_eq_none q] at hc;simp at hc
 obtain⟨rfl,_⟩:=aj.cells.inj (Option.some.inj e)
 exact⟨L.set o v,kF L o v ho⟩
theorem aR.setCell (hS:aR Γ W h w) {i:Nat} {c:PT Value} (hb:h.get i=some (.cells c false)) {a a':Addr} (ha:Γ.addr a a') (hi:a.block=i)
  {v v':Value} (hv:ay Γ v v') (hc:(c.get a.off).isSome):aR Γ W (h.set i (some (.cells (c.set a.off (some v)) false))) (w.setCell a' v'):=by
 obtain⟨s,hblk,ho',⟨cs,el,fz,h1,h2,h3⟩,hw⟩:=hS.block hb ha hi
 obtain rfl:=h2 rfl
 have ep:=hw rfl
 refine⟨hS.below.setCell ep _,fun x hx=>(World.frozen?_setCell _ _ _ _).trans (hS.fz x hx),?_,?_,?_,nW hS.eT ha.spot' _,hS.fin,Bf hS.rows hb hc⟩
 ·intro j B hj
  rw[PT.aU] at hj
  by_cases hji:j=i
  ·subst hji
   rw[if_pos rfl] at hj
   obtain rfl:aj.cells (c.set a.off (some v)) false=B:=by simpa using hj
   refine⟨a'.block,s,hblk,⟨_,el,(0,0),heap_setCell_same ha.spot' h1,fun _=>rfl,?_⟩,fun _=>ep⟩
   intro k u hu
   rw[PT.aU] at hu
   by_cases hk:k=a.off
   ·subst hk
    rw[if_pos rfl] at hu
    obtain rfl:v=u:=by simpa using hu
    obtain⟨u0,hu0⟩:=Option.isSome_iff_exists.1 hc
    obtain⟨x,hx,_⟩:=h3 _ _ hu0
    have hlt:s+a.off<cs.size:=by
     rcases Nat.lt_or_ge (s+a.off) cs.size with hlt |hge
     ·exact hlt
     ·simp[Array.getElem?_eq_none hge] at hx
    exact⟨v',by rw[ho'];simp[hlt],hv⟩
   ·rw[if_neg hk] at hu
    obtain⟨x,hx,r⟩:=h3 k u hu
    exact⟨x,by rw[ho',Array.getElem?_setIfInBounds_ne (by omega)];exact hx,r⟩
  ·rw[if_neg hji] at hj
   obtain⟨b,s',hb',hB,hw'⟩:=hS.live j B hj
   have hne:=hS.jf i j _ B a'.block s b s' (Ne.symm hji) hb hj hblk hb' rfl
   exact⟨b,s',hb',hB.world (fQ (Ne.symm hne)),hw'⟩
 ·intro x y B B' b s1 b' s2 hxy hx hy e1 e2 hB
  rw[PT.aU] at hx hy
  have key:∀ z C,(if z=i then some (aj.cells (c.set a.off (some v)) false) else h.get z)=some C→∃ C',h.get z=some C'∧(C.bO→C'.bO):=by
   intro z C hz
   by_cases Mi:z=i
   ·subst Mi;rw[if_pos rfl] at hz;exact⟨_,hb,fun _=>rfl⟩
   ·rw[if_neg Mi] at hz;exact⟨C,hz,id⟩
  obtain⟨C,hC,Tv⟩:=key x B hx
  obtain⟨C',Tw,_⟩:=key y B' hy
  exact hS.jf x y C C' b s1 b' s2 hxy hC Tw e1 e2 (Tv hB)
 ·intro j b s' hj
  simpa [World.setCell] using hS.dom j b s' hj
theorem aR.ux (hS:aR Γ W h w) {a':Addr} (hs:a'.spot=none) (v':Value) (ep:W.heap.size≤a'.block)
  (hfree:∀ j B b s,h.get j=some B→Γ.blk j=some (b,s)→b≠a'.block):aR Γ W h (w.setCell a' v'):=by
 refine⟨hS.below.setCell ep _,fun x hx=>(World.frozen?_setCell _ _ _ _).trans (hS.fz x hx),?_,hS.jf,?_,nW hS.eT hs _,hS.fin,hS.rows⟩
 ·intro j B hj
  obtain⟨b,s,e,hB,hw⟩:=hS.live j B hj
  exact⟨b,s,e,hB.world (fQ (hfree j B b s hj e)),hw⟩
 ·intro j b s' hj
  simpa [World.setCell] using hS.dom j b s' hj
theorem aR.kill (hS:aR Γ W h w) (i:Nat):aR Γ W (h.set i none) w:=by
 refine⟨hS.below,hS.fz,?_,?_,hS.dom,hS.eT,hS.fin,jN hS.rows (fun c ro e=>by simp at e)⟩
 ·intro j B hj
  rw[PT.aU] at hj
  by_cases hji:j=i
  ·rw[if_pos hji] at hj;simp at hj
  ·rw[if_neg hji] at hj;exact hS.live j B hj
 ·intro x y B B' b s1 b' s2 hxy hx hy
  rw[PT.aU] at hx hy
  by_cases wo:x=i
  ·rw[if_pos wo] at hx;simp at hx
  ·by_cases Xz:y=i
   ·rw[if_pos Xz] at hy;simp at hy
   ·rw[if_neg wo] at hx;rw[if_neg Xz] at hy;exact hS.jf x y B B' b s1 b' s2 hxy hx hy
def aV.ext (Γ:aV) (n b s:Nat) (z:Nat→Option Nat):aV:=⟨fun i=>if i=n then some (b,s) else Γ.blk i,z⟩
theorem aV.sQ (Γ:aV) {n b s:Nat} {z:Nat→Option Nat} (hn:Γ.blk n=none) (hz:∀ b m,Γ.eT b=some m→z b=some m):Γ.le (Γ.ext n b s z):=
 ⟨fun i x e=>by
  have:i≠n:=fun e'=>by rw[e',hn] at e;simp at e
  simp[aV.ext,this,e],hz⟩
theorem heap_alloc_new (w:World) (o:Obj):(w.alloc o).heap[w.heap.size]? = some o:=by
 show (w.heap.push o)[w.heap.size]? = _
 simp
theorem cm {w:World} {b:Nat} {o:Obj} (h:w.heap[b]? = some o):b<w.heap.size:=by
 rcases Nat.lt_or_ge b w.heap.size with hlt |hge
 ·exact hlt
 ·simp[Array.getElem?_eq_none hge] at h
theorem aR.yD (hS:aR Γ W h w):Γ.eT w.heap.size=none:=by
 cases hz:Γ.eT w.heap.size with
 |none=>rfl
 |some m=>obtain⟨c,e,f,h1,_⟩:=hS.eT _ _ hz;exact absurd (cm h1) (by omega)
theorem aV.yE {n b s:Nat} {z:Nat→Option Nat} (h:∃ N,∀ i,N≤i→Γ.blk i=none):∃ N,∀ i,N≤i→(Γ.ext n b s z).blk i=none:=by
 obtain⟨N,hN⟩:=h
 refine⟨max N (n+1),fun i hi=>?_⟩
 have h1:i≠n:=by omega
 simp[aV.ext,h1,hN i (by omega)]
theorem aR.uy (hS:aR Γ W h w) {n:Nat} (hn:Γ.blk n=none) (o:Obj) (B:aj) (z:Nat→Option Nat)
  (hz:∀ b m,Γ.eT b=some m→z b=some m) (hzn:∀ b m,z b=some m→b≠w.heap.size→Γ.eT b=some m)
  (hzo:∀ m,z w.heap.size=some m→∃ c el fz,o = .cells c el fz∧c.size=m)
  (hf:∀ a,(w.alloc o).frozen? a=w.frozen? a) (hR:∀ c ro,B = .cells c ro→∃ L,c = .ofList .leaf 0 L) (hB:je (Γ.ext n w.heap.size 0 z) (w.alloc o) B w.heap.size 0):
  aR (Γ.ext n w.heap.size 0 z) W (h.set n (some B)) (w.alloc o):=by
 have hle:Γ.le (Γ.ext n w.heap.size 0 z):=Γ.sQ hn hz
 have hold:∀ b,b<w.heap.size→(w.alloc o).heap[b]? = w.heap[b]? := fun b hb=>Below.heap_alloc w _ b hb
 refine⟨hS.below.alloc hS.below.size _,fun a ha=>(hf a).trans (hS.fz a ha),?_,?_,?_,?_,aV.yE hS.fin,jN hS.rows fun c ro e=>hR c ro (by simpa using e)⟩
 ·intro j C hj
  rw[PT.aU] at hj
  by_cases hjn:j=n
  ·subst hjn
   rw[if_pos rfl] at hj
   obtain rfl:B=C:=by simpa using hj
   exact⟨w.heap.size,0,by simp[aV.ext],hB,fun _=>hS.below.size⟩
  ·rw[if_neg hjn] at hj
   obtain⟨b,s,e,hB,hw⟩:=hS.live j C hj
   exact⟨b,s,hle.blk _ _ e,(hB.world (hold b (hS.dom _ _ _ e))).mono hle,hw⟩
 ·intro x y C C' b s1 b' s2 hxy hx hy e1 e2 hC
  rw[PT.aU] at hx hy
  by_cases KQ:x=n
  ·subst KQ
   rw[if_neg (Ne.symm hxy)] at hy
   obtain⟨b0,s0,e0,_,_⟩:=hS.live y C' hy
   have Mj:=hle.blk _ _ e0
   rw[e2] at Mj
   obtain⟨rfl,rfl⟩:b'=b0∧s2=s0:=by simpa using Mj
   have:=hS.dom _ _ _ e0
   have zk:some (w.heap.size,0)=some (b,s1):=by simpa [aV.ext] using e1
   obtain⟨rfl,rfl⟩:w.heap.size=b∧0=s1:=by simpa using zk
   omega
  ·rw[if_neg KQ] at hx
   obtain⟨b0,s0,e0,_,_⟩:=hS.live x C hx
   have Mj:=hle.blk _ _ e0
   rw[e1] at Mj
   obtain⟨rfl,rfl⟩:b=b0∧s1=s0:=by simpa using Mj
   have hlt:=hS.dom _ _ _ e0
   by_cases KR:y=n
   ·subst KR
    have KS:some (w.heap.size,0)=some (b',s2):=by simpa [aV.ext] using e2
    obtain⟨rfl,rfl⟩:w.heap.size=b'∧0=s2:=by simpa using KS
    omega
   ·rw[if_neg KR] at hy
    obtain⟨b1,s1',zk,_,_⟩:=hS.live y C' hy
    have KS:=hle.blk _ _ zk
    rw[e2] at KS
    obtain⟨rfl,rfl⟩:b'=b1∧s2=s1':=by simpa using KS
    exact hS.jf x y C C' _ _ _ _ hxy hx hy e0 zk hC
 ·intro i b s e
  have:(w.alloc o).heap.size=w.heap.size+1:=by simp
  by_cases hin:i=n
  ·subst hin
   have zk:some (w.heap.size,0)=some (b,s):=by simpa [aV.ext] using e
   obtain⟨rfl,rfl⟩:w.heap.size=b∧0=s:=by simpa using zk
   omega
  ·have:=hS.dom i b s (by simpa [aV.ext,hin] using e)
   omega
 ·intro b m e
  by_cases hb:b=w.heap.size
  ·subst hb
   obtain⟨c,el,fz,rfl,hc⟩:=hzo m e
   exact⟨c,el,fz,heap_alloc_new _ _,hc⟩
  ·obtain⟨c,e',f,h1,h2⟩:=hS.eT b m (hzn b m e hb)
   exact⟨c,e',f,(hold b (cm h1)).trans h1,h2⟩
structure aV.Step (Γ aI:aV) (n:Nat):Prop where
 le:Γ.le aI
 out:∀ i,i≠n→aI.blk i=Γ.blk i
theorem aR.jg (hS:aR Γ W h w) {n:Nat} (hn:Γ.blk n=none) (l:List Value) (cs:Array Value) (el:TypeId)
  (hl:∀ (i:Nat) (v:Value),l[i]? = some v→∃ v',cs[i]? = some v'∧ay Γ v v'):
  ∃ aI,Γ.Step aI n∧aI.blk n=some (w.heap.size,0)∧aI.eT w.heap.size=some cs.size∧
   aR aI W (h.set n (some (.cells (PT.ofList .leaf 0 l) false))) (w.alloc (.cells cs el)):=by
 have zm:=hS.yD
 let z:Nat→Option Nat:=fun b=>if b=w.heap.size then some cs.size else Γ.eT b
 have uz:∀ b m,Γ.eT b=some m→z b=some m:=by
  intro b m e
  have:b≠w.heap.size:=fun e'=>by rw[e',zm] at e;simp at e
  simp[z,this,e]
 have hle:Γ.le (Γ.ext n w.heap.size 0 z):=Γ.sQ hn uz
 refine⟨Γ.ext n w.heap.size 0 z,⟨hle,fun i hi=>by simp[aV.ext,hi]⟩,by simp[aV.ext],by simp[aV.ext,z],?_⟩
 refine hS.uy hn _ _ z uz (fun b m e hb=>by simpa [z,hb] using e) (fun m e=>⟨cs,el,(0,0),rfl,by simpa [z] using e⟩) (frozen?_alloc_cells w cs el) (fun c ro e=>⟨l,(aj.cells.inj e).1.symm⟩) ?_
 refine⟨cs,el,(0,0),heap_alloc_new _ _,fun _=>rfl,fun i v hv=>?_⟩
 rw[PT.aF] at hv
 obtain⟨v',e,r⟩:=hl i v hv
 exact⟨v',by simpa using e,r.mono hle⟩
def cq:Obj→Bool
 | .cells .. => false
 | _=>true
theorem kW (w:World) (o:Obj) (ho:cq o=true) (a:Addr):(w.alloc o).frozen? a=w.frozen? a:=by
 by_cases h:a.block=w.heap.size
 ·have e1:(w.alloc o).heap[a.block]? = some o:=by rw[h];exact heap_alloc_new _ _
  have e2:w.heap[a.block]? = none:=by rw[h];simp
  cases o<;>first | (simp[cq] at ho;done) |simp[World.frozen?,e1,e2]
 ·exact World.frozen?_alloc_old _ _ _ h
theorem aR.eZ (hS:aR Γ W h w) {n:Nat} (hn:Γ.blk n=none) (o:Obj) (B:aj) (ho:cq o=true)
  (hB:∀ (aI:aV) (w':World),Γ.le aI→w'.heap[w.heap.size]? = some o→je aI w' B w.heap.size 0):
  ∃ aI,Γ.Step aI n∧aI.blk n=some (w.heap.size,0)∧aR aI W (h.set n (some B)) (w.alloc o):=by
 have zm:=hS.yD
 have hle:Γ.le (Γ.ext n w.heap.size 0 Γ.eT):=Γ.sQ hn fun _ _ h=>h
 refine⟨Γ.ext n w.heap.size 0 Γ.eT,⟨hle,fun i hi=>by simp[aV.ext,hi]⟩,by simp[aV.ext],?_⟩
 exact hS.uy hn _ _ Γ.eT (fun _ _ h=>h) (fun b m e _=>e) (fun m e=>by rw[zm] at e;simp at e) (kW w o ho) (fun c ro e=>by
  subst e
  obtain⟨cs,el,fz,q,_⟩:=hB _ _ hle (heap_alloc_new w o)
  rw[heap_alloc_new] at q
  rw[Option.some.inj q] at ho;simp[cq] at ho) (hB _ _ hle (heap_alloc_new _ _))
theorem aR.view (hS:aR Γ W h w) {n:Nat} (hn:Γ.blk n=none) (l:List Value) {b s:Nat} {cs:Array Value} {el:TypeId} (hb:w.heap[b]? = some (.cells cs el (0,0)))
  (ep:W.heap.size≤b) (hfree:∀ j B b' s',h.get j=some B→Γ.blk j=some (b',s')→b'≠b)
  (hl:∀ (i:Nat) (v:Value),l[i]? = some v→∃ v',cs[s+i]? = some v'∧ay Γ v v'):
  ∃ aI,Γ.Step aI n∧aI.blk n=some (b,s)∧aR aI W (h.set n (some (.cells (PT.ofList .leaf 0 l) false))) w:=by
 have hle:Γ.le (Γ.ext n b s Γ.eT):=Γ.sQ hn fun _ _ h=>h
 refine⟨Γ.ext n b s Γ.eT,⟨hle,fun i hi=>by simp[aV.ext,hi]⟩,by simp[aV.ext],hS.below,hS.fz,?_,?_,?_,hS.eT,aV.yE hS.fin,jN hS.rows fun c ro e=>⟨l,by simpa using (aj.cells.inj (Option.some.inj e)).1.symm⟩⟩
 ·intro j C hj
  rw[PT.aU] at hj
  by_cases hjn:j=n
  ·subst hjn
   rw[if_pos rfl] at hj
   obtain rfl:aj.cells (PT.ofList .leaf 0 l) false=C:=by simpa using hj
   refine⟨b,s,by simp[aV.ext],⟨cs,el,(0,0),hb,fun _=>rfl,fun i v hv=>?_⟩,fun _=>ep⟩
   rw[PT.aF] at hv
   obtain⟨v',e,r⟩:=hl i v hv
   exact⟨v',e,r.mono hle⟩
  ·rw[if_neg hjn] at hj
   obtain⟨b',s',e,hB,hw⟩:=hS.live j C hj
   exact⟨b',s',hle.blk _ _ e,hB.mono hle,hw⟩
 ·intro x y C C' b1 s1 b2 s2 hxy hx hy e1 e2 hC
  rw[PT.aU] at hx hy
  by_cases KQ:x=n
  ·subst KQ
   rw[if_neg (Ne.symm hxy)] at hy
   have zk:some (b,s)=some (b1,s1):=by simpa [aV.ext] using e1
   obtain⟨rfl,rfl⟩:b=b1∧s=s1:=by simpa using zk
   exact Ne.symm (hfree y C' b2 s2 hy (by simpa [aV.ext,Ne.symm hxy] using e2))
  ·rw[if_neg KQ] at hx
   have zk:Γ.blk x=some (b1,s1):=by simpa [aV.ext,KQ] using e1
   by_cases KR:y=n
   ·subst KR
    have KS:some (b,s)=some (b2,s2):=by simpa [aV.ext] using e2
    obtain⟨rfl,rfl⟩:b=b2∧s=s2:=by simpa using KS
    exact hfree x C b1 s1 hx zk
   ·rw[if_neg KR] at hy
    exact hS.jf x y C C' _ _ _ _ hxy hx hy zk (by simpa [aV.ext,KR] using e2) hC
 ·intro i b1 s1 e
  by_cases hin:i=n
  ·subst hin
   have zk:some (b,s)=some (b1,s1):=by simpa [aV.ext] using e
   obtain⟨rfl,rfl⟩:b=b1∧s=s1:=by simpa using zk
   exact cm hb
  ·exact hS.dom i b1 s1 (by simpa [aV.ext,hin] using e)
theorem aR.pO (hS:aR Γ W h w) {i:Nat} {B B':aj} (hb:h.get i=some B) {r:Nat} (hr:Γ.blk i=some (r,0)) {o:Obj} (hwr:B.bO) (abQ:B'.bO)
  (hold:∀ w',je Γ w' B r 0→∃ o',w'.heap[r]? = some o'∧cq o'=true) (hno:cq o=true)
  (he:∀ w':World,w'.heap[r]? = some o→je Γ w' B' r 0):
  aR Γ W (h.set i (some B')) { w with heap:=w.heap.setIfInBounds r o }:=by
 obtain⟨b,s,e,D4,hw⟩:=hS.live i _ hb
 rw[hr] at e
 obtain⟨rfl,rfl⟩:r=b∧0=s:=by simpa using e
 obtain⟨o',h1,Io⟩:=hold _ D4
 have ep:=hw hwr
 have hne:∀ k,k≠r→(w.heap.setIfInBounds r o)[k]? = w.heap[k]? := fun k hk=>by rw[Array.getElem?_setIfInBounds_ne (Ne.symm hk)]
 have hsame:(w.heap.setIfInBounds r o)[r]? = some o:=by simp[cm h1]
 have hnf:∀ a,World.frozen? { w with heap:=w.heap.setIfInBounds r o } a=w.frozen? a:=by
  intro a
  by_cases ha:a.block=r
  ·cases o<;>cases o'<;>first | (simp[cq] at hno;done) | (simp[cq] at Io;done) |simp only[World.frozen?,ha,hsame,h1]
  ·simp only[World.frozen?,hne _ ha]
 refine⟨hS.below.trans ⟨rfl,rfl,rfl,by simp,fun k hk=>hne k (by omega)⟩,fun a ha=>(hnf a).trans (hS.fz a ha),?_,?_,?_,?_,hS.fin,jN hS.rows fun c ro e=>by
  obtain rfl:=Option.some.inj e
  obtain⟨cs,el,fz,q,_⟩:=he { w with heap:=w.heap.setIfInBounds r o } hsame
  rw[show ({ w with heap:=w.heap.setIfInBounds r o }:World).heap=w.heap.setIfInBounds r o from rfl,hsame] at q
  rw[Option.some.inj q] at hno;simp[cq] at hno⟩
 ·intro j C hj
  rw[PT.aU] at hj
  by_cases hji:j=i
  ·subst hji
   rw[if_pos rfl] at hj
   obtain rfl:B'=C:=by simpa using hj
   exact⟨r,0,hr,he _ hsame,fun _=>ep⟩
  ·rw[if_neg hji] at hj
   obtain⟨b,s',hb',hB,hw'⟩:=hS.live j C hj
   have Tx:=hS.jf i j _ C r 0 b s' (Ne.symm hji) hb hj hr hb' hwr
   exact⟨b,s',hb',hB.world (hne b (Ne.symm Tx)),hw'⟩
 ·intro x y C C' b s1 b' s2 hxy hx hy e1 e2 hB
  rw[PT.aU] at hx hy
  have key:∀ z C,(if z=i then some B' else h.get z)=some C→∃ C',h.get z=some C'∧(C.bO→C'.bO):=by
   intro z C hz
   by_cases Mi:z=i
   ·subst Mi;rw[if_pos rfl] at hz;exact⟨_,hb,fun _=>hwr⟩
   ·rw[if_neg Mi] at hz;exact⟨C,hz,id⟩
  obtain⟨C1,hC,Tv⟩:=key x C hx
  obtain⟨C1',Tw,_⟩:=key y C' hy
  exact hS.jf x y C1 C1' b s1 b' s2 hxy hC Tw e1 e2 (Tv hB)
 ·intro j b s' hj
  simpa using hS.dom j b s' hj
 ·intro b n PY
  obtain⟨c,el,fz,h2,h3⟩:=hS.eT b n PY
  have:b≠r:=fun e=>by rw[e,h1] at h2;simp at h2;rw[h2] at Io;simp[cq] at Io
  exact⟨c,el,fz,(hne b this).trans h2,h3⟩
theorem aR.wG (hS:aR Γ W h w) {i:Nat} {es es':List (Value×Value×Nat)} {clk Ml:Nat} (hb:h.get i=some (.map es clk)) {r:Nat} (hr:Γ.blk i=some (r,0))
  (aK:Array MapEntry) (he:bz Γ es' aK.toList):
  aR Γ W (h.set i (some (.map es' Ml))) { w with heap:=w.heap.setIfInBounds r (.map aK Ml) }:=
 hS.pO hb hr trivial trivial (fun w' ⟨_,aK,h1,_⟩=>⟨_,h1,rfl⟩) rfl fun w' h1=>⟨rfl,aK,h1,he⟩
end
section
variable (P:Program)
def ah {α β:Type} (Γ:aV) (W:World) (h:PT aj) (n:Nat) (w:World) (m:AP α) (e:Sem β) (R:aV→α→β→Prop):Prop:=
 ∀ lim rd wr a s',m.run lim ⟨h,n,rd,wr⟩ = .ok a s'→(∀ i,n≤i→i<s'.next→Γ.blk i=none)→
  ∃ aI w' b,e.run P w = .ok b w'∧Γ.le aI∧aR aI W s'.heap w'∧(∀ i,¬(n≤i∧i<s'.next)→aI.blk i=Γ.blk i)∧R aI a b
def dZ {α β:Type} (Γ:aV) (m:AP α) (e:Sem β) (R:aV→α→β→Prop):Prop:=
 ∀ W h n w,aR Γ W h w→ah P Γ W h n w m e R
variable {P}
variable {α β:Type} {Γ:aV} {W:World} {h:PT aj} {n:Nat} {w:World} {R:aV→α→β→Prop}
theorem AP.gL {α:Type} (lim:Nat):∀ (m:AP α) (s:HS) (a:α) (s':HS),m.run lim s = .ok a s'→s.next≤s'.next
 | .pure a,s,_,s',e=>by simp[AP.run] at e;rw[←e.2];exact Nat.le_refl _
 | .fail _,s,_,s',e=>by simp[AP.run] at e
 | .get id k,s,a,s',e=>by
  simp only[AP.run] at e
  split at e
  ·simp at e
  ·refine Nat.le_trans ?_ (AP.gL lim _ _ _ _ e);cases Nat.blt id lim<;>exact Nat.le_refl _
 | .set id b k,s,a,s',e=>by
  simp only[AP.run] at e
  split at e
  ·simp at e
  ·refine Nat.le_trans ?_ (AP.gL lim _ _ _ _ e);cases Nat.blt id lim<;>exact Nat.le_refl _
 | .kill id k,s,a,s',e=>by
  simp only[AP.run] at e
  split at e
  ·simp at e
  ·refine Nat.le_trans ?_ (AP.gL lim _ _ _ _ e);cases Nat.blt id lim<;>exact Nat.le_refl _
 | .new b k,s,a,s',e=>by
  simp only[AP.run] at e
  refine Nat.le_trans ?_ (AP.gL lim _ _ _ _ e);exact Nat.le_succ _
theorem AP.run_bind {α β:Type} (lim:Nat) (f:α→AP β):∀ (m:AP α) (s:HS),(m.bind f).run lim s=match m.run lim s with | .ok a s=>(f a).run lim s | .fail w => .fail w
 | .pure a,s=>rfl
 | .fail _,s=>rfl
 | .get id k,s=>by
  simp only[AP.bind,AP.run];split
  ·rfl
  ·exact AP.run_bind lim f _ _
 | .set id b k,s=>by
  simp only[AP.bind,AP.run];split
  ·rfl
  ·exact AP.run_bind lim f _ _
 | .kill id k,s=>by
  simp only[AP.bind,AP.run];split
  ·rfl
  ·exact AP.run_bind lim f _ _
 | .new b k,s=>by simp only[AP.bind,AP.run];exact AP.run_bind lim f _ _
theorem ah.fail {why:String} {e:Sem β}:ah P Γ W h n w (.fail why:AP α) e R:=by
 intro lim rd wr a s' hr;simp[AP.run] at hr
theorem ah.ok (hS:aR Γ W h w) {a:α} {e:Sem β} {b:β} (he:e.run P w = .ok b w) (hR:R Γ a b):ah P Γ W h n w (.pure a) e R:=by
 intro lim rd wr a' s' hr _
 simp only[AP.run,aW.ok.injEq] at hr
 obtain⟨rfl,rfl⟩:=hr
 exact⟨Γ,w,b,he,.refl _,hS,fun _ _=>rfl,hR⟩
theorem ah.get {id:Nat} {k:aj→AP α} {e:Sem β} (hk:∀ B,h.get id=some B→ah P Γ W h n w (k B) e R):ah P Γ W h n w (.get id k) e R:=by
 intro lim rd wr a s' hr hf
 simp only[AP.run] at hr
 split at hr
 ·simp at hr
 ·rename_i B hB
  cases hb:Nat.blt id lim with
  |true=>rw[hb] at hr;exact hk B hB lim _ _ a s' hr hf
  |false=>rw[hb] at hr;exact hk B hB lim _ _ a s' hr hf
theorem ah.set {id:Nat} {B:aj} {k:AP α} {e e':Sem β} {w':World} (he:e.run P w=e'.run P w') (hk:ah P Γ W (h.set id (some B)) n w' k e' R):
  ah P Γ W h n w (.set id B k) e R:=by
 intro lim rd wr a s' hr hf
 simp only[AP.run] at hr
 split at hr
 ·simp at hr
 ·rw[he]
  cases hb:Nat.blt id lim with
  |true=>rw[hb] at hr;exact hk lim _ _ a s' hr hf
  |false=>rw[hb] at hr;exact hk lim _ _ a s' hr hf
theorem ah.kill {id:Nat} {k:AP α} {e:Sem β} (hk:ah P Γ W (h.set id none) n w k e R):ah P Γ W h n w (.kill id k) e R:=by
 intro lim rd wr a s' hr hf
 simp only[AP.run] at hr
 split at hr
 ·simp at hr
 ·cases hb:Nat.blt id lim with
  |true=>rw[hb] at hr;exact hk lim _ _ a s' hr hf
  |false=>rw[hb] at hr;exact hk lim _ _ a s' hr hf
theorem ah.new {B:aj} {k:Nat→AP α} {e:Sem β}
  (hk:Γ.blk n=none→∃ (bP:aV) (w₁:World) (e':Sem β),Γ.Step bP n∧e.run P w=e'.run P w₁∧ah P bP W (h.set n (some B)) (n+1) w₁ (k n) e' R):
  ah P Γ W h n w (.new B k) e R:=by
 intro lim rd wr a s' hr hf
 simp only[AP.run] at hr
 have hle:=AP.gL lim _ _ _ _ hr
 have hle':n+1≤s'.next:=hle
 obtain⟨bP,w₁,e',hst,he,hs⟩:=hk (hf n (Nat.le_refl _) (by omega))
 obtain⟨aI,w',b,h1,h2,h3,h4,h5⟩:=hs lim _ _ a s' hr (fun i hi hi'=>by rw[hst.out i (by omega)];exact hf i (by omega) hi')
 refine⟨aI,w',b,he.trans h1,hst.le.trans h2,h3,fun i hi=>?_,h5⟩
 rw[h4 i (by omega),hst.out i (by omega)]
theorem ah.congr {m:AP α} {e e':Sem β} {w':World} (he:e.run P w=e'.run P w') (hk:ah P Γ W h n w' m e' R):ah P Γ W h n w m e R:=by
 intro lim rd wr a s' hr hf
 rw[he]
 exact hk lim rd wr a s' hr hf
theorem ah.bind {γ δ:Type} {m:AP α} {f:α→AP γ} {e:Sem β} {g:β→Sem δ} {R':aV→γ→δ→Prop}
  (hm:ah P Γ W h n w m e R) (hf:∀ aI a b,Γ.le aI→R aI a b→dZ P aI (f a) (g b) R'):ah P Γ W h n w (m.bind f) (e >>= g) R':=by
 intro lim rd wr a s' hr hfree
 rw[AP.run_bind] at hr
 split at hr
 ·rename_i a₁ s₁ GU
  have hle:=AP.gL lim _ _ _ _ GU
  have hle':=AP.gL lim _ _ _ _ hr
  have hle:n≤s₁.next:=hle
  obtain⟨bP,w₁,b₁,h1,h2,h3,h4,h5⟩:=hm lim rd wr a₁ s₁ GU (fun i hi hi'=>hfree i hi (by omega))
  obtain⟨aI,w',b,k1,k2,k3,k4,k5⟩:=hf bP a₁ b₁ h2 h5 W s₁.heap s₁.next w₁ h3 lim s₁.rd s₁.wr a s' hr (fun i hi hi'=>by
   rw[h4 i (by omega)];exact hfree i (by omega) hi')
  refine⟨aI,w',b,?_,h2.trans k2,k3,fun i hi=>?_,k5⟩
  ·rw[Sem.run_bind,h1];exact k1
  ·rw[k4 i (by omega),h4 i (by omega)]
 ·simp at hr
theorem ah.mono {m:AP α} {e:Sem β} {R':aV→α→β→Prop} (hm:ah P Γ W h n w m e R) (hR:∀ aI a b,R aI a b→R' aI a b):ah P Γ W h n w m e R':=by
 intro lim rd wr a s' hr hf
 obtain⟨aI,w',b,h1,h2,h3,h4,h5⟩:=hm lim rd wr a s' hr hf
 exact⟨aI,w',b,h1,h2,h3,h4,hR _ _ _ h5⟩
end
end Go.Am
