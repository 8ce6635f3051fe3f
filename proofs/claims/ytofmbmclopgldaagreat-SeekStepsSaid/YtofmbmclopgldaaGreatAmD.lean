/-
A part.
-/
import Derived.Test.YtofmbmclopgldaaGreatAmC
set_option linter.all false
namespace Go.Am
open Go.RowKit
inductive bZ (Γ:bL):List (Value×Value×Nat)→List MapEntry→Prop
 |nil:bZ Γ [] []
 |cons (p:Value×Value×Nat) (e:MapEntry) (l:List (Value×Value×Nat)) (l':List MapEntry) (hk:aD Γ p.1 e.key) (hv:aD Γ p.2.1 e.val) (hb:p.2.2=e.born) (t:bZ Γ l l'):bZ Γ (p::l) (e::l')
theorem bZ.mono{Γ aY:bL}(h:Γ.le aY):∀ {l:List (Value×Value×Nat)} {l':List MapEntry},bZ Γ l l'→bZ aY l l'
 | _,_,.nil => .nil
 | _,_,.cons p e _ _ hk hv hb t => .cons p e _ _ (hk.mono h) (hv.mono h) hb (bZ.mono h t)
theorem bZ.length{Γ:bL}:∀ {l:List (Value×Value×Nat)} {l':List MapEntry},bZ Γ l l'→l'.length=l.length
 | _,_,.nil=>rfl
 | _,_,.cons _ _ _ _ _ _ _ t=>by simp[bZ.length t]
theorem bZ.append{Γ:bL}:∀ {l m:List (Value×Value×Nat)} {l' m':List MapEntry},bZ Γ l l'→bZ Γ m m'→bZ Γ (l++m) (l'++m')
 | _,_,_,_,.nil,k=>k
 | _,_,_,_,.cons p e _ _ hk hv hb t,k => .cons p e _ _ hk hv hb (bZ.append t k)
def aj.cV:aj→Prop
 | .cells _ ro=>ro=false
 | _=>True
def m_(Γ:bL)(w:World):aj→Nat→Nat→Prop
 | .cells c ro,b,s=>∃ cs el fz,w.heap[b]? = some (.cells cs el fz)∧(ro=false→fz=(0,0))∧∀ i v,c.get i=some v→∃ v',cs[s+i]? = some v'∧aD Γ v v'
 | .map es clk,b,s=>s=0∧∃ aZ,w.heap[b]? = some (.map aZ clk)∧bZ Γ es aZ.toList
 | .iter m since seen stepped,b,s=>s=0∧∃ m',w.heap[b]? = some (.mapIter m' since ⟨seen⟩ stepped)∧(m=none→m'=none)∧∀ r,m=some r→∃ r',m'=some r'∧Γ.blk r=some (r',0)
 | .loop st h_ tm ps as bd,b,s=>s=0∧∃ L:Loop,w.heap[b]? = some (.loop L)∧L.state=st∧L.pending=h_∧ij Γ tm L.tmps∧L.params.toList=ps∧L.assign=as∧L.body=bd
 | .deferred,b,s=>s=0∧w.heap[b]? = some (.deferred (some []))
theorem m_.mono{Γ aY:bL}(h:Γ.le aY){w:World}{B:aj}{b s:Nat}(k:m_ Γ w B b s):m_ aY w B b s:=by
 cases B with
 |cells c ro=>obtain⟨cs,el,fz,h1,h2,h3⟩:=k;exact⟨cs,el,fz,h1,h2,fun i v e=>let ⟨v',e',r⟩:=h3 i v e;⟨v',e',r.mono h⟩⟩
 |map es clk=>obtain⟨h0,aZ,h1,h2⟩:=k;exact⟨h0,aZ,h1,h2.mono h⟩
 |iter m since seen stepped=>obtain⟨h0,m',h1,h2,h3⟩:=k;exact⟨h0,m',h1,h2,fun r e=>let ⟨r',e',hb⟩:=h3 r e;⟨r',e',h.blk _ _ hb⟩⟩
 |loop st h_ tm ps as bd=>obtain⟨h0,L,h1,h2,h3,h4,h5⟩:=k;exact⟨h0,L,h1,h2,h3,h4.mono h,h5⟩
 |deferred=>exact k
theorem m_.world{Γ:bL}{w w':World}{B:aj}{b s:Nat}(k:m_ Γ w B b s)(h:w'.heap[b]? = w.heap[b]?):m_ Γ w' B b s:=by
 cases B with
 |cells c ro=>obtain⟨cs,el,fz,h1,h2,h3⟩:=k;exact⟨cs,el,fz,h.trans h1,h2,h3⟩
 |map es clk=>obtain⟨h0,aZ,h1,h2⟩:=k;exact⟨h0,aZ,h.trans h1,h2⟩
 |iter m since seen stepped=>obtain⟨h0,m',h1,h2⟩:=k;exact⟨h0,m',h.trans h1,h2⟩
 |loop st h_ tm ps as bd=>obtain⟨h0,L,h1,h2⟩:=k;exact⟨h0,L,h.trans h1,h2⟩
 |deferred=>exact⟨k.1,h.trans k.2⟩
structure bK(Γ:bL)(W:World)(h:PT aj)(w:World):Prop where
 below:Below W.heap.size W w
 fz:∀ a,a.block<W.heap.size→w.frozen? a=W.frozen? a
 live:∀ i B,h.get i=some B→∃ b s,Γ.blk i=some (b,s)∧m_ Γ w B b s∧(B.cV→W.heap.size≤b)
 ng:∀ i j B B' b s b' s',i≠j→h.get i=some B→h.get j=some B'→Γ.blk i=some (b,s)→Γ.blk j=some (b',s')→B.cV→b≠b'
 dom:∀ i b s,Γ.blk i=some (b,s)→b<w.heap.size
 jo:∀ b n,Γ.jo b=some n→∃ c el fz,w.heap[b]? = some (.cells c el fz)∧c.size=n
 fin:∃ N,∀ i,N≤i→Γ.blk i=none
 rows:∀ i c ro,h.get i=some (.cells c ro)→∃ L,c = .ofList .leaf 0 L
section
variable {Γ:bL} {W w:World} {h:PT aj}
theorem bK.drew(hS:bK Γ W h w):bK Γ W h w.drew:=
 ⟨hS.below.drew,hS.fz,hS.live,hS.ng,hS.dom,hS.jo,hS.fin,hS.rows⟩
theorem lI{w:World}{a:Addr}{cs:Array Value}{el:TypeId}{fz:Nat×Nat}(hs:a.spot=none)(h:w.heap[a.block]? = some (.cells cs el fz)):w.cell? a=cs[a.off]? := by
 simp[World.cell?,h,hs]
theorem bK.block(hS:bK Γ W h w){i:Nat}{B:aj}(hb:h.get i=some B){a a':Addr}(ha:Γ.addr a a')(hi:a.block=i):∃ s,Γ.blk i=some (a'.block,s)∧a'.off=s+a.off∧m_ Γ w B a'.block s∧(B.cV→W.heap.size≤a'.block):=by
 obtain⟨s,e,o⟩:=ha.at_;obtain⟨b,s',e',hB,hw⟩:=hS.live i B hb;rw[hi] at e;rw[e] at e';obtain⟨rfl,rfl⟩:a'.block=b∧s=s':=by simpa using e'
 exact⟨s,e,o,hB,hw⟩
theorem bK.cell(hS:bK Γ W h w){i:Nat}{c:PT Value}{ro:Bool}(hb:h.get i=some (.cells c ro)){o:Nat}{v:Value}(hc:c.get o=some v)
  {a a':Addr} (ha:Γ.addr a a') (hi:a.block=i) {j:Nat} (ho:a.off+j=o):∃ v',w.cell? (a'.add j)=some v'∧aD Γ v v':=by
 obtain⟨s,_,ho',⟨cs,el,fz,h1,_,h3⟩,_⟩:=hS.block hb ha hi;obtain⟨v',e,r⟩:=h3 o v hc;refine⟨v',?_,r⟩;have e2:(a'.add j).block=a'.block∧(a'.add j).off=a'.off+j∧(a'.add j).spot=none:=by
  unfold Addr.add;split
  ·rename_i hj;exact⟨rfl,by omega,ha.spot'⟩
  ·exact⟨rfl,rfl,rfl⟩
 rw[lI e2.2.2 (by rw[e2.1];exact h1),e2.2.1,ho',show s+a.off+j=s+o by omega];exact e
theorem bK.Me(hS:bK Γ W h w){i:Nat}{c:PT Value}{ro:Bool}(hb:h.get i=some (.cells c ro)){v:Value}
  {a a':Addr} (hc:c.get a.off=some v) (ha:Γ.addr a a') (hi:a.block=i):∃ v',w.cell? a'=some v'∧aD Γ v v':=by
 obtain⟨v',e,r⟩:=hS.cell hb hc ha hi (j:=0) rfl;exact⟨v',by simpa [Addr.add] using e,r⟩
theorem bK.frozen(hS:bK Γ W h w){i:Nat}{c:PT Value}(hb:h.get i=some (.cells c false)){a a':Addr}(ha:Γ.addr a a')(hi:a.block=i)(j:Nat):w.frozen? (a'.add j)=false:=by
 obtain⟨s,_,ho',⟨cs,el,fz,h1,h2,h3⟩,_⟩:=hS.block hb ha hi;obtain rfl:=h2 rfl;have e2:(a'.add j).block=a'.block:=by unfold Addr.add;split<;>rfl
 simp[World.frozen?,e2,h1]
theorem jV{w:World}{a:Addr}{v:Value}{b:Nat}(hb:b≠a.block):(w.setCell a v).heap[b]? = w.heap[b]? := by
 simp only[World.setCell,Array.getElem?_modify];rw[if_neg (Ne.symm hb)]
theorem heap_setCell_same{w:World}{a:Addr}{v:Value}{cs:Array Value}{el:TypeId}{fz:Nat×Nat}(hs:a.spot=none)(h:w.heap[a.block]? = some (.cells cs el fz)):
  (w.setCell a v).heap[a.block]? = some (.cells (cs.setIfInBounds a.off v) el fz):=by
 simp[World.setCell,Array.getElem?_modify,h,hs]
theorem uE{w:World}(hz:∀ b n,Γ.jo b=some n→∃ c el fz,w.heap[b]? = some (.cells c el fz)∧c.size=n){a:Addr}(hs:a.spot=none)(v:Value):
  ∀ b n,Γ.jo b=some n→∃ c el fz,(w.setCell a v).heap[b]? = some (.cells c el fz)∧c.size=n:=by
 intro b n hb;obtain⟨c,el,fz,h1,h2⟩:=hz b n hb;by_cases Rt:b=a.block
 ·subst Rt;exact⟨_,el,fz,heap_setCell_same hs h1,by simpa using h2⟩
 ·exact⟨c,el,fz,(jV Rt).trans h1,h2⟩
theorem oF{h:PT aj}(hR:∀ i c ro,h.get i=some (.cells c ro)→∃ L,c = .ofList .leaf 0 L){j:Nat}{B:Option aj}(hB:∀ c ro,B=some (.cells c ro)→∃ L,c = .ofList .leaf 0 L):
  ∀ i c ro,(h.set j B).get i=some (.cells c ro)→∃ L,c = .ofList .leaf 0 L:=by
 intro i c ro e;rw[PT.bC] at e;split at e
 ·exact hB c ro e
 ·exact hR i c ro e
theorem Mf{h:PT aj}(hR:∀ i c ro,h.get i=some (.cells c ro)→∃ L,c = .ofList .leaf 0 L){j:Nat}{c:PT Value}{ro JJ:Bool}(hb:h.get j=some (.cells c ro)){o:Nat}{v:Value}(hc:(c.get o).isSome):
  ∀ i c' r',(h.set j (some (.cells (c.set o (some v)) JJ))).get i=some (.cells c' r')→∃ L,c' = .ofList .leaf 0 L:=by
 refine oF hR fun c' r' e=>?_;obtain⟨L,rfl⟩:=hR j c ro hb;rw[PT.aQ] at hc;have ho:o<L.length:=by
  rcases Nat.lt_or_ge o L.length with q |q
  ·exact q
  ·rw[List.getElem?_eq_none q] at hc;simp at hc
 obtain⟨rfl,_⟩:=aj.cells.inj (Option.some.inj e);exact⟨L.set o v,pY L o v ho⟩
theorem bK.setCell(hS:bK Γ W h w){i:Nat}{c:PT Value}(hb:h.get i=some (.cells c false)){a a':Addr}(ha:Γ.addr a a')(hi:a.block=i)
  {v v':Value} (hv:aD Γ v v') (hc:(c.get a.off).isSome):bK Γ W (h.set i (some (.cells (c.set a.off (some v)) false))) (w.setCell a' v'):=by
 obtain⟨s,hblk,ho',⟨cs,el,fz,h1,h2,h3⟩,hw⟩:=hS.block hb ha hi;obtain rfl:=h2 rfl;have iI:=hw rfl;refine⟨hS.below.setCell iI _,fun x hx=>(World.frozen?_setCell _ _ _ _).trans (hS.fz x hx),?_,?_,?_,uE hS.jo ha.spot' _,hS.fin,Mf hS.rows hb hc⟩
 ·intro j B hj;rw[PT.bC] at hj;by_cases hji:j=i
  ·subst hji;rw[if_pos rfl] at hj;obtain rfl:aj.cells (c.set a.off (some v)) false=B:=by simpa using hj
   refine⟨a'.block,s,hblk,⟨_,el,(0,0),heap_setCell_same ha.spot' h1,fun _=>rfl,?_⟩,fun _=>iI⟩;intro k u hu;rw[PT.bC] at hu;by_cases hk:k=a.off
   ·subst hk;rw[if_pos rfl] at hu;obtain rfl:v=u:=by simpa using hu
    obtain⟨u0,hu0⟩:=Option.isSome_iff_exists.1 hc;obtain⟨x,hx,_⟩:=h3 _ _ hu0;have hlt:s+a.off<cs.size:=by
     rcases Nat.lt_or_ge (s+a.off) cs.size with hlt |hge
     ·exact hlt
     ·simp[Array.getElem?_eq_none hge] at hx
    exact⟨v',by rw[ho'];simp[hlt],hv⟩
   ·rw[if_neg hk] at hu;obtain⟨x,hx,r⟩:=h3 k u hu;exact⟨x,by rw[ho',Array.getElem?_setIfInBounds_ne qJ];exact hx,r⟩
  ·rw[if_neg hji] at hj;obtain⟨b,s',hb',hB,hw'⟩:=hS.live j B hj;have hne:=hS.ng i j _ B a'.block s b s' (Ne.symm hji) hb hj hblk hb' rfl;exact⟨b,s',hb',hB.world (jV (Ne.symm hne)),hw'⟩
 ·intro x y B B' b s1 b' s2 hxy hx hy e1 e2 hB;rw[PT.bC] at hx hy;have key:∀ z C,(if z=i then some (aj.cells (c.set a.off (some v)) false) else h.get z)=some C→∃ C',h.get z=some C'∧(C.cV→C'.cV):=by
   intro z C hz;by_cases hzi:z=i
   ·subst hzi;rw[if_pos rfl] at hz;exact⟨_,hb,fun _=>rfl⟩
   ·rw[if_neg hzi] at hz;exact⟨C,hz,id⟩
  obtain⟨C,hC,hCw⟩:=key x B hx;obtain⟨C',hC',_⟩:=key y B' hy;exact hS.ng x y C C' b s1 b' s2 hxy hC hC' e1 e2 (hCw hB)
 ·intro j b s' hj
  simpa [World.setCell] using hS.dom j b s' hj
theorem bK.Da(hS:bK Γ W h w){a':Addr}(hs:a'.spot=none)(v':Value)(iI:W.heap.size≤a'.block)
  (hfree:∀ j B b s,h.get j=some B→Γ.blk j=some (b,s)→b≠a'.block):bK Γ W h (w.setCell a' v'):=by
 refine⟨hS.below.setCell iI _,fun x hx=>(World.frozen?_setCell _ _ _ _).trans (hS.fz x hx),?_,hS.ng,?_,uE hS.jo hs _,hS.fin,hS.rows⟩
 ·intro j B hj;obtain⟨b,s,e,hB,hw⟩:=hS.live j B hj;exact⟨b,s,e,hB.world (jV (hfree j B b s hj e)),hw⟩
 ·intro j b s' hj
  simpa [World.setCell] using hS.dom j b s' hj
theorem bK.kill(hS:bK Γ W h w)(i:Nat):bK Γ W (h.set i none) w:=by
 refine⟨hS.below,hS.fz,?_,?_,hS.dom,hS.jo,hS.fin,oF hS.rows (fun c ro e=>by simp at e)⟩
 ·intro j B hj;rw[PT.bC] at hj;by_cases hji:j=i
  ·rw[if_pos hji] at hj;simp at hj
  ·rw[if_neg hji] at hj;exact hS.live j B hj
 ·intro x y B B' b s1 b' s2 hxy hx hy;rw[PT.bC] at hx hy;by_cases Fp:x=i
  ·rw[if_pos Fp] at hx;simp at hx
  ·by_cases hyi:y=i
   ·rw[if_pos hyi] at hy;simp at hy
   ·rw[if_neg Fp] at hx;rw[if_neg hyi] at hy;exact hS.ng x y B B' b s1 b' s2 hxy hx hy
def bL.ext(Γ:bL)(n b s:Nat)(z:Nat→Option Nat):bL:=⟨fun i=>if i=n then some (b,s) else Γ.blk i,z⟩
theorem bL.Be(Γ:bL){n b s:Nat}{z:Nat→Option Nat}(hn:Γ.blk n=none)(hz:∀ b m,Γ.jo b=some m→z b=some m):Γ.le (Γ.ext n b s z):=
 ⟨fun i x e=>by
  have:i≠n:=fun e'=>by rw[e',hn] at e;simp at e
  simp[bL.ext,this,e],hz⟩
theorem heap_alloc_new(w:World)(o:Obj):(w.alloc o).heap[w.heap.size]? = some o:=by
 show (w.heap.push o)[w.heap.size]? = _
 simp
theorem dZ{w:World}{b:Nat}{o:Obj}(h:w.heap[b]? = some o):b<w.heap.size:=by
 rcases Nat.lt_or_ge b w.heap.size with hlt |hge
 ·exact hlt
 ·simp[Array.getElem?_eq_none hge] at h
theorem bK.HZ(hS:bK Γ W h w):Γ.jo w.heap.size=none:=by
 cases hz:Γ.jo w.heap.size with
 |none=>rfl
 |some m=>obtain⟨c,e,f,h1,_⟩:=hS.jo _ _ hz;exact absurd (dZ h1) qJ
theorem bL.H6{n b s:Nat}{z:Nat→Option Nat}(h:∃ N,∀ i,N≤i→Γ.blk i=none):∃ N,∀ i,N≤i→(Γ.ext n b s z).blk i=none:=by
 obtain⟨N,hN⟩:=h;refine⟨max N (n+1),fun i hi=>?_⟩;have h1:i≠n:=by omega
 simp[bL.ext,h1,hN i qJ]
theorem bK.Db(hS:bK Γ W h w){n:Nat}(hn:Γ.blk n=none)(o:Obj)(B:aj)(z:Nat→Option Nat)
  (hz:∀ b m,Γ.jo b=some m→z b=some m) (hzn:∀ b m,z b=some m→b≠w.heap.size→Γ.jo b=some m)
  (hzo:∀ m,z w.heap.size=some m→∃ c el fz,o = .cells c el fz∧c.size=m)
  (hf:∀ a,(w.alloc o).frozen? a=w.frozen? a) (hR:∀ c ro,B = .cells c ro→∃ L,c = .ofList .leaf 0 L) (hB:m_ (Γ.ext n w.heap.size 0 z) (w.alloc o) B w.heap.size 0):
  bK (Γ.ext n w.heap.size 0 z) W (h.set n (some B)) (w.alloc o):=by
 have hle:Γ.le (Γ.ext n w.heap.size 0 z):=Γ.Be hn hz;have hold:∀ b,b<w.heap.size→(w.alloc o).heap[b]? = w.heap[b]? := fun b hb=>Below.heap_alloc w _ b hb;refine⟨hS.below.alloc hS.below.size _,fun a ha=>(hf a).trans (hS.fz a ha),?_,?_,?_,?_,bL.H6 hS.fin,oF hS.rows fun c ro e=>hR c ro (by simpa using e)⟩
 ·intro j C hj;rw[PT.bC] at hj;by_cases hjn:j=n
  ·subst hjn;rw[if_pos rfl] at hj;obtain rfl:B=C:=by simpa using hj
   exact⟨w.heap.size,0,by simp[bL.ext],hB,fun _=>hS.below.size⟩
  ·rw[if_neg hjn] at hj;obtain⟨b,s,e,hB,hw⟩:=hS.live j C hj;exact⟨b,s,hle.blk _ _ e,(hB.world (hold b (hS.dom _ _ _ e))).mono hle,hw⟩
 ·intro x y C C' b s1 b' s2 hxy hx hy e1 e2 hC;rw[PT.bC] at hx hy;by_cases hxn:x=n
  ·subst hxn;rw[if_neg (Ne.symm hxy)] at hy;obtain⟨b0,s0,e0,_,_⟩:=hS.live y C' hy;have e0':=hle.blk _ _ e0;rw[e2] at e0';obtain⟨rfl,rfl⟩:b'=b0∧s2=s0:=by simpa using e0'
   have:=hS.dom _ _ _ e0;have mR:some (w.heap.size,0)=some (b,s1):=by simpa [bL.ext] using e1
   obtain⟨rfl,rfl⟩:w.heap.size=b∧0=s1:=by simpa using mR
   omega
  ·rw[if_neg hxn] at hx;obtain⟨b0,s0,e0,_,_⟩:=hS.live x C hx;have e0':=hle.blk _ _ e0;rw[e1] at e0';obtain⟨rfl,rfl⟩:b=b0∧s1=s0:=by simpa using e0'
   have hlt:=hS.dom _ _ _ e0;by_cases hyn:y=n
   ·subst hyn;have e2':some (w.heap.size,0)=some (b',s2):=by simpa [bL.ext] using e2
    obtain⟨rfl,rfl⟩:w.heap.size=b'∧0=s2:=by simpa using e2'
    omega
   ·rw[if_neg hyn] at hy;obtain⟨b1,s1',mR,_,_⟩:=hS.live y C' hy;have e2':=hle.blk _ _ mR;rw[e2] at e2';obtain⟨rfl,rfl⟩:b'=b1∧s2=s1':=by simpa using e2'
    exact hS.ng x y C C' _ _ _ _ hxy hx hy e0 mR hC
 ·intro i b s e;have:(w.alloc o).heap.size=w.heap.size+1:=by simp
  by_cases hin:i=n
  ·subst hin;have mR:some (w.heap.size,0)=some (b,s):=by simpa [bL.ext] using e
   obtain⟨rfl,rfl⟩:w.heap.size=b∧0=s:=by simpa using mR
   omega
  ·have:=hS.dom i b s (by simpa [bL.ext,hin] using e);omega
 ·intro b m e;by_cases hb:b=w.heap.size
  ·subst hb;obtain⟨c,el,fz,rfl,hc⟩:=hzo m e;exact⟨c,el,fz,heap_alloc_new _ _,hc⟩
  ·obtain⟨c,e',f,h1,h2⟩:=hS.jo b m (hzn b m e hb);exact⟨c,e',f,(hold b (dZ h1)).trans h1,h2⟩
structure bL.Step(Γ aY:bL)(n:Nat):Prop where
 le:Γ.le aY
 out:∀ i,i≠n→aY.blk i=Γ.blk i
theorem bK.nh(hS:bK Γ W h w){n:Nat}(hn:Γ.blk n=none)(l:List Value)(cs:Array Value)(el:TypeId)
  (hl:∀ (i:Nat) (v:Value),l[i]? = some v→∃ v',cs[i]? = some v'∧aD Γ v v'):
  ∃ aY,Γ.Step aY n∧aY.blk n=some (w.heap.size,0)∧aY.jo w.heap.size=some cs.size∧
   bK aY W (h.set n (some (.cells (PT.ofList .leaf 0 l) false))) (w.alloc (.cells cs el)):=by
 have CP:=hS.HZ
 let z:Nat→Option Nat:=fun b=>if b=w.heap.size then some cs.size else Γ.jo b
 have Dc:∀ b m,Γ.jo b=some m→z b=some m:=by
  intro b m e;have:b≠w.heap.size:=fun e'=>by rw[e',CP] at e;simp at e
  simp[z,this,e]
 have hle:Γ.le (Γ.ext n w.heap.size 0 z):=Γ.Be hn Dc;refine⟨Γ.ext n w.heap.size 0 z,⟨hle,fun i hi=>by simp[bL.ext,hi]⟩,by simp[bL.ext],by simp[bL.ext,z],?_⟩;refine hS.Db hn _ _ z Dc (fun b m e hb=>by simpa [z,hb] using e) (fun m e=>⟨cs,el,(0,0),rfl,by simpa [z] using e⟩) (frozen?_alloc_cells w cs el) (fun c ro e=>⟨l,(aj.cells.inj e).1.symm⟩) ?_;refine⟨cs,el,(0,0),heap_alloc_new _ _,fun _=>rfl,fun i v hv=>?_⟩;rw[PT.aQ] at hv;obtain⟨v',e,r⟩:=hl i v hv;exact⟨v',by simpa using e,r.mono hle⟩
def d_:Obj→Bool
 | .cells .. => false
 | _=>true
theorem qu(w:World)(o:Obj)(ho:d_ o=true)(a:Addr):(w.alloc o).frozen? a=w.frozen? a:=by
 by_cases h:a.block=w.heap.size
 ·have e1:(w.alloc o).heap[a.block]? = some o:=by rw[h];exact heap_alloc_new _ _
  have e2:w.heap[a.block]? = none:=by rw[h];simp
  cases o<;>first | (simp[d_] at ho;done)|simp[World.frozen?,e1,e2]
 ·exact World.frozen?_alloc_old _ _ _ h
theorem bK.jw(hS:bK Γ W h w){n:Nat}(hn:Γ.blk n=none)(o:Obj)(B:aj)(ho:d_ o=true)
  (hB:∀ (aY:bL) (w':World),Γ.le aY→w'.heap[w.heap.size]? = some o→m_ aY w' B w.heap.size 0):
  ∃ aY,Γ.Step aY n∧aY.blk n=some (w.heap.size,0)∧bK aY W (h.set n (some B)) (w.alloc o):=by
 have CP:=hS.HZ;have hle:Γ.le (Γ.ext n w.heap.size 0 Γ.jo):=Γ.Be hn fun _ _ h=>h;refine⟨Γ.ext n w.heap.size 0 Γ.jo,⟨hle,fun i hi=>by simp[bL.ext,hi]⟩,by simp[bL.ext],?_⟩;exact hS.Db hn _ _ Γ.jo (fun _ _ h=>h) (fun b m e _=>e) (fun m e=>by rw[CP] at e;simp at e) (qu w o ho) (fun c ro e=>by
  subst e;obtain⟨cs,el,fz,q,_⟩:=hB _ _ hle (heap_alloc_new w o);rw[heap_alloc_new] at q;rw[Option.some.inj q] at ho;simp[d_] at ho) (hB _ _ hle (heap_alloc_new _ _))
theorem bK.view(hS:bK Γ W h w){n:Nat}(hn:Γ.blk n=none)(l:List Value){b s:Nat}{cs:Array Value}{el:TypeId}(hb:w.heap[b]? = some (.cells cs el (0,0)))
  (iI:W.heap.size≤b) (hfree:∀ j B b' s',h.get j=some B→Γ.blk j=some (b',s')→b'≠b)
  (hl:∀ (i:Nat) (v:Value),l[i]? = some v→∃ v',cs[s+i]? = some v'∧aD Γ v v'):
  ∃ aY,Γ.Step aY n∧aY.blk n=some (b,s)∧bK aY W (h.set n (some (.cells (PT.ofList .leaf 0 l) false))) w:=by
 have hle:Γ.le (Γ.ext n b s Γ.jo):=Γ.Be hn fun _ _ h=>h;refine⟨Γ.ext n b s Γ.jo,⟨hle,fun i hi=>by simp[bL.ext,hi]⟩,by simp[bL.ext],hS.below,hS.fz,?_,?_,?_,hS.jo,bL.H6 hS.fin,oF hS.rows fun c ro e=>⟨l,by simpa using (aj.cells.inj (Option.some.inj e)).1.symm⟩⟩
 ·intro j C hj;rw[PT.bC] at hj;by_cases hjn:j=n
  ·subst hjn;rw[if_pos rfl] at hj;obtain rfl:aj.cells (PT.ofList .leaf 0 l) false=C:=by simpa using hj
   refine⟨b,s,by simp[bL.ext],⟨cs,el,(0,0),hb,fun _=>rfl,fun i v hv=>?_⟩,fun _=>iI⟩;rw[PT.aQ] at hv;obtain⟨v',e,r⟩:=hl i v hv;exact⟨v',e,r.mono hle⟩
  ·rw[if_neg hjn] at hj;obtain⟨b',s',e,hB,hw⟩:=hS.live j C hj;exact⟨b',s',hle.blk _ _ e,hB.mono hle,hw⟩
 ·intro x y C C' b1 s1 b2 s2 hxy hx hy e1 e2 hC;rw[PT.bC] at hx hy;by_cases hxn:x=n
  ·subst hxn;rw[if_neg (Ne.symm hxy)] at hy;have mR:some (b,s)=some (b1,s1):=by simpa [bL.ext] using e1
   obtain⟨rfl,rfl⟩:b=b1∧s=s1:=by simpa using mR
   exact Ne.symm (hfree y C' b2 s2 hy (by simpa [bL.ext,Ne.symm hxy] using e2))
  ·rw[if_neg hxn] at hx;have mR:Γ.blk x=some (b1,s1):=by simpa [bL.ext,hxn] using e1
   by_cases hyn:y=n
   ·subst hyn;have e2':some (b,s)=some (b2,s2):=by simpa [bL.ext] using e2
    obtain⟨rfl,rfl⟩:b=b2∧s=s2:=by simpa using e2'
    exact hfree x C b1 s1 hx mR
   ·rw[if_neg hyn] at hy;exact hS.ng x y C C' _ _ _ _ hxy hx hy mR (by simpa [bL.ext,hyn] using e2) hC
 ·intro i b1 s1 e;by_cases hin:i=n
  ·subst hin;have mR:some (b,s)=some (b1,s1):=by simpa [bL.ext] using e
   obtain⟨rfl,rfl⟩:b=b1∧s=s1:=by simpa using mR
   exact dZ hb
  ·exact hS.dom i b1 s1 (by simpa [bL.ext,hin] using e)
theorem bK.wP(hS:bK Γ W h w){i:Nat}{B B':aj}(hb:h.get i=some B){r:Nat}(hr:Γ.blk i=some (r,0)){o:Obj}(hwr:B.cV)(aCp:B'.cV)
  (hold:∀ w',m_ Γ w' B r 0→∃ o',w'.heap[r]? = some o'∧d_ o'=true) (hno:d_ o=true)
  (he:∀ w':World,w'.heap[r]? = some o→m_ Γ w' B' r 0):
  bK Γ W (h.set i (some B')) { w with heap:=w.heap.setIfInBounds r o }:=by
 obtain⟨b,s,e,Ru,hw⟩:=hS.live i _ hb;rw[hr] at e;obtain⟨rfl,rfl⟩:r=b∧0=s:=by simpa using e
 obtain⟨o',h1,XR⟩:=hold _ Ru;have iI:=hw hwr;have hne:∀ k,k≠r→(w.heap.setIfInBounds r o)[k]? = w.heap[k]? := fun k hk=>by rw[Array.getElem?_setIfInBounds_ne (Ne.symm hk)]
 have hsame:(w.heap.setIfInBounds r o)[r]? = some o:=by simp[dZ h1]
 have hnf:∀ a,World.frozen? { w with heap:=w.heap.setIfInBounds r o } a=w.frozen? a:=by
  intro a;by_cases ha:a.block=r
  ·cases o<;>cases o'<;>first | (simp[d_] at hno;done) | (simp[d_] at XR;done)|simp only[World.frozen?,ha,hsame,h1]
  ·simp only[World.frozen?,hne _ ha]
 refine⟨hS.below.trans ⟨rfl,rfl,rfl,by simp,fun k hk=>hne k qJ⟩,fun a ha=>(hnf a).trans (hS.fz a ha),?_,?_,?_,?_,hS.fin,oF hS.rows fun c ro e=>by
  obtain rfl:=Option.some.inj e;obtain⟨cs,el,fz,q,_⟩:=he { w with heap:=w.heap.setIfInBounds r o } hsame;rw[show ({ w with heap:=w.heap.setIfInBounds r o }:World).heap=w.heap.setIfInBounds r o from rfl,hsame] at q;rw[Option.some.inj q] at hno;simp[d_] at hno⟩
 ·intro j C hj;rw[PT.bC] at hj;by_cases hji:j=i
  ·subst hji;rw[if_pos rfl] at hj;obtain rfl:B'=C:=by simpa using hj
   exact⟨r,0,hr,he _ hsame,fun _=>iI⟩
  ·rw[if_neg hji] at hj;obtain⟨b,s',hb',hB,hw'⟩:=hS.live j C hj;have aoR:=hS.ng i j _ C r 0 b s' (Ne.symm hji) hb hj hr hb' hwr;exact⟨b,s',hb',hB.world (hne b (Ne.symm aoR)),hw'⟩
 ·intro x y C C' b s1 b' s2 hxy hx hy e1 e2 hB;rw[PT.bC] at hx hy;have key:∀ z C,(if z=i then some B' else h.get z)=some C→∃ C',h.get z=some C'∧(C.cV→C'.cV):=by
   intro z C hz;by_cases hzi:z=i
   ·subst hzi;rw[if_pos rfl] at hz;exact⟨_,hb,fun _=>hwr⟩
   ·rw[if_neg hzi] at hz;exact⟨C,hz,id⟩
  obtain⟨C1,hC,hCw⟩:=key x C hx;obtain⟨C1',hC',_⟩:=key y C' hy;exact hS.ng x y C1 C1' b s1 b' s2 hxy hC hC' e1 e2 (hCw hB)
 ·intro j b s' hj
  simpa using hS.dom j b s' hj
 ·intro b n FH;obtain⟨c,el,fz,h2,h3⟩:=hS.jo b n FH;have:b≠r:=fun e=>by rw[e,h1] at h2;simp at h2;rw[h2] at XR;simp[d_] at XR
  exact⟨c,el,fz,(hne b this).trans h2,h3⟩
theorem bK.FI(hS:bK Γ W h w){i:Nat}{es es':List (Value×Value×Nat)}{clk acD:Nat}(hb:h.get i=some (.map es clk)){r:Nat}(hr:Γ.blk i=some (r,0))
  (aZ:Array MapEntry) (he:bZ Γ es' aZ.toList):
  bK Γ W (h.set i (some (.map es' acD))) { w with heap:=w.heap.setIfInBounds r (.map aZ acD) }:=
 hS.wP hb hr trivial trivial (fun w' ⟨_,aZ,h1,_⟩=>⟨_,h1,rfl⟩) rfl fun w' h1=>⟨rfl,aZ,h1,he⟩
end
section
variable (P:Program)
def ak{α β:Type}(Γ:bL)(W:World)(h:PT aj)(n:Nat)(w:World)(m:AP α)(e:Sem β)(R:bL→α→β→Prop):Prop:=
 ∀ lim rd wr a s',m.run lim ⟨h,n,rd,wr⟩ = .ok a s'→(∀ i,n≤i→i<s'.next→Γ.blk i=none)→
  ∃ aY w' b,e.run P w = .ok b w'∧Γ.le aY∧bK aY W s'.heap w'∧(∀ i,¬(n≤i∧i<s'.next)→aY.blk i=Γ.blk i)∧R aY a b
def iA{α β:Type}(Γ:bL)(m:AP α)(e:Sem β)(R:bL→α→β→Prop):Prop:=
 ∀ W h n w,bK Γ W h w→ak P Γ W h n w m e R
variable {P}
variable {α β:Type} {Γ:bL} {W:World} {h:PT aj} {n:Nat} {w:World} {R:bL→α→β→Prop}
theorem AP.kL{α:Type}(lim:Nat):∀ (m:AP α) (s:HS) (a:α) (s':HS),m.run lim s = .ok a s'→s.next≤s'.next
 | .pure a,s,_,s',e=>by simp[AP.run] at e;rw[←e.2];exact Nat.le_refl _
 | .fail _,s,_,s',e=>by simp[AP.run] at e
 | .get id k,s,a,s',e=>by
  simp only[AP.run] at e;split at e
  ·simp at e
  ·refine Nat.le_trans ?_ (AP.kL lim _ _ _ _ e);cases Nat.blt id lim<;>exact Nat.le_refl _
 | .set id b k,s,a,s',e=>by
  simp only[AP.run] at e;split at e
  ·simp at e
  ·refine Nat.le_trans ?_ (AP.kL lim _ _ _ _ e);cases Nat.blt id lim<;>exact Nat.le_refl _
 | .kill id k,s,a,s',e=>by
  simp only[AP.run] at e;split at e
  ·simp at e
  ·refine Nat.le_trans ?_ (AP.kL lim _ _ _ _ e);cases Nat.blt id lim<;>exact Nat.le_refl _
 | .new b k,s,a,s',e=>by
  simp only[AP.run] at e;refine Nat.le_trans ?_ (AP.kL lim _ _ _ _ e);exact Nat.le_succ _
theorem AP.run_bind{α β:Type}(lim:Nat)(f:α→AP β):∀ (m:AP α) (s:HS),(m.bind f).run lim s=match m.run lim s with | .ok a s=>(f a).run lim s | .fail w => .fail w
 | .pure a,s=>rfl
 | .fail _,s=>rfl
 | .get id k,s=>by
  simp only[AP.bind,AP.run];split
  ·rfl
  ·exact AP.run_bind lim f _ _
 | .set id b k,s=>by
  simp only[AP.bind,AP.run];split
  ·rfl
  ·exact AP.run_bind lim f _ _
 | .kill id k,s=>by
  simp only[AP.bind,AP.run];split
  ·rfl
  ·exact AP.run_bind lim f _ _
 | .new b k,s=>by simp only[AP.bind,AP.run];exact AP.run_bind lim f _ _
theorem ak.fail{why:String}{e:Sem β}:ak P Γ W h n w (.fail why:AP α) e R:=by
 intro lim rd wr a s' hr;simp[AP.run] at hr
theorem ak.ok(hS:bK Γ W h w){a:α}{e:Sem β}{b:β}(he:e.run P w = .ok b w)(hR:R Γ a b):ak P Γ W h n w (.pure a) e R:=by
 intro lim rd wr a' s' hr _;simp only[AP.run,aO.ok.injEq] at hr;obtain⟨rfl,rfl⟩:=hr;exact⟨Γ,w,b,he,.refl _,hS,fun _ _=>rfl,hR⟩
theorem ak.get{id:Nat}{k:aj→AP α}{e:Sem β}(hk:∀ B,h.get id=some B→ak P Γ W h n w (k B) e R):ak P Γ W h n w (.get id k) e R:=by
 intro lim rd wr a s' hr hf;simp only[AP.run] at hr;split at hr
 ·simp at hr
 ·rename_i B hB;cases hb:Nat.blt id lim with
  |true=>rw[hb] at hr;exact hk B hB lim _ _ a s' hr hf
  |false=>rw[hb] at hr;exact hk B hB lim _ _ a s' hr hf
theorem ak.set{id:Nat}{B:aj}{k:AP α}{e e':Sem β}{w':World}(he:e.run P w=e'.run P w')(hk:ak P Γ W (h.set id (some B)) n w' k e' R):
  ak P Γ W h n w (.set id B k) e R:=by
 intro lim rd wr a s' hr hf;simp only[AP.run] at hr;split at hr
 ·simp at hr
 ·rw[he];cases hb:Nat.blt id lim with
  |true=>rw[hb] at hr;exact hk lim _ _ a s' hr hf
  |false=>rw[hb] at hr;exact hk lim _ _ a s' hr hf
theorem ak.kill{id:Nat}{k:AP α}{e:Sem β}(hk:ak P Γ W (h.set id none) n w k e R):ak P Γ W h n w (.kill id k) e R:=by
 intro lim rd wr a s' hr hf;simp only[AP.run] at hr;split at hr
 ·simp at hr
 ·cases hb:Nat.blt id lim with
  |true=>rw[hb] at hr;exact hk lim _ _ a s' hr hf
  |false=>rw[hb] at hr;exact hk lim _ _ a s' hr hf
theorem ak.new{B:aj}{k:Nat→AP α}{e:Sem β}
  (hk:Γ.blk n=none→∃ (cW:bL) (w₁:World) (e':Sem β),Γ.Step cW n∧e.run P w=e'.run P w₁∧ak P cW W (h.set n (some B)) (n+1) w₁ (k n) e' R):
  ak P Γ W h n w (.new B k) e R:=by
 intro lim rd wr a s' hr hf;simp only[AP.run] at hr;have hle:=AP.kL lim _ _ _ _ hr;have hle':n+1≤s'.next:=hle;obtain⟨cW,w₁,e',hst,he,hs⟩:=hk (hf n (Nat.le_refl _) qJ);obtain⟨aY,w',b,h1,h2,h3,h4,h5⟩:=hs lim _ _ a s' hr (fun i hi hi'=>by rw[hst.out i qJ];exact hf i qJ hi');refine⟨aY,w',b,he.trans h1,hst.le.trans h2,h3,fun i hi=>?_,h5⟩;rw[h4 i qJ,hst.out i qJ]
theorem ak.congr{m:AP α}{e e':Sem β}{w':World}(he:e.run P w=e'.run P w')(hk:ak P Γ W h n w' m e' R):ak P Γ W h n w m e R:=by
 intro lim rd wr a s' hr hf;rw[he];exact hk lim rd wr a s' hr hf
theorem ak.bind{γ δ:Type}{m:AP α}{f:α→AP γ}{e:Sem β}{g:β→Sem δ}{R':bL→γ→δ→Prop}
  (hm:ak P Γ W h n w m e R) (hf:∀ aY a b,Γ.le aY→R aY a b→iA P aY (f a) (g b) R'):ak P Γ W h n w (m.bind f) (e >>= g) R':=by
 intro lim rd wr a s' hr hfree;rw[AP.run_bind] at hr;split at hr
 ·rename_i a₁ s₁ VL;have hle:=AP.kL lim _ _ _ _ VL;have hle':=AP.kL lim _ _ _ _ hr;have hle:n≤s₁.next:=hle;obtain⟨cW,w₁,b₁,h1,h2,h3,h4,h5⟩:=hm lim rd wr a₁ s₁ VL (fun i hi hi'=>hfree i hi qJ);obtain⟨aY,w',b,k1,k2,k3,k4,k5⟩:=hf cW a₁ b₁ h2 h5 W s₁.heap s₁.next w₁ h3 lim s₁.rd s₁.wr a s' hr (fun i hi hi'=>by
   rw[h4 i qJ];exact hfree i qJ hi')
  refine⟨aY,w',b,?_,h2.trans k2,k3,fun i hi=>?_,k5⟩
  ·rw[Sem.run_bind,h1];exact k1
  ·rw[k4 i qJ,h4 i qJ]
 ·simp at hr
theorem ak.mono{m:AP α}{e:Sem β}{R':bL→α→β→Prop}(hm:ak P Γ W h n w m e R)(hR:∀ aY a b,R aY a b→R' aY a b):ak P Γ W h n w m e R':=by
 intro lim rd wr a s' hr hf;obtain⟨aY,w',b,h1,h2,h3,h4,h5⟩:=hm lim rd wr a s' hr hf;exact⟨aY,w',b,h1,h2,h3,h4,hR _ _ _ h5⟩
end
end Go.Am
