/-
  A part of the proof: contracts of inner functions.
-/
import Derived.Test.YtbceiadaihphaaaGreatRX2
set_option linter.unusedVariables false
set_option linter.unusedSimpArgs false
namespace Go.Proofs.YtbceiadaihphaaaGreat
open Go.Am
def wE (N V:Nat→Nat) (i:Nat):Nat:=if i%2=0 then N (i/2) else V (i/2)
theorem B9 {N V:Nat→Nat} {t:Nat}:wE N V (2*t)=N t:=by unfold wE;rw[if_pos (by omega),show 2*t/2=t by omega]
theorem Mm {N V:Nat→Nat} {t:Nat}:wE N V (2*t+1)=V t:=by unfold wE;rw[if_neg (by omega),show (2*t+1)/2=t by omega]
theorem Aq {N V:Nat→Nat} {t x j:Nat} (h:j≠2*t):wE (fs N t x) V j=wE N V j:=by
 unfold wE
 split
 ·rw[az (by omega)]
 ·rfl
theorem IE {N V:Nat→Nat} {t x j:Nat} (h:j≠2*t+1):wE N (fs V t x) j=wE N V j:=by
 unfold wE
 split
 ·rfl
 ·rw[az (by omega)]
def pl (ns:Nat) (f:Nat→Nat) (g:Nat→Bool):List (Int×Bool):=(List.range ns).map fun i=>((f i:Int),g i)
theorem fj {ns:Nat} {f:Nat→Nat} {g:Nat→Bool}:(pl ns f g).length=ns:=by simp[pl]
theorem pV {ns:Nat} {f:Nat→Nat} {g:Nat→Bool} {i:Nat} (hi:i<ns):(pl ns f g)[i]? = some ((f i:Int),g i):=by
 unfold pl;rw[List.getElem?_map,List.getElem?_range hi];rfl
theorem zv {ns:Nat} {f f':Nat→Nat} {g g':Nat→Bool} {i:Nat} {x:Int} {b:Bool} (hx:x=(f' i:Int)) (hb:b=g' i) (h:∀ j,j≠i→f' j=f j∧g' j=g j):(pl ns f g).set i (x,b)=pl ns f' g':=by
 apply List.ext_getElem?
 intro j
 rw[List.getElem?_set]
 by_cases c:i=j
 ·subst c
  rw[if_pos rfl]
  by_cases c2:i<ns
  ·rw[if_pos (by rw[fj];exact c2),pV c2,hx,hb]
  ·rw[if_neg (by rw[fj];exact c2)]
   rw[List.getElem?_eq_none (by rw[fj];omega)]
 ·rw[if_neg c]
  by_cases c2:j<ns
  ·rw[pV c2,pV c2,(h j (fun q=>c q.symm)).1,(h j (fun q=>c q.symm)).2]
  ·rw[List.getElem?_eq_none (by rw[fj];omega),List.getElem?_eq_none (by rw[fj];omega)]
def bE (E:Nat→Nat) (i:Nat):Bool:=decide (E i≠0)
structure kJ (ns:Nat) (s:ES) (L:List Value) (d:Rl→Nat) (C:Rl→Option aj):Prop where
 mem:∃ k,dP d C (nl (2*ns) (wE s.N s.V)) L k
 xM:qD d C 0 ns (pl ns s.N (bE s.E))
 num:∀ i,i<ns→s.N i*6≤L.length
 vs:∀ i,i<ns→s.V i<64
 ev:∀ t,t<ns→s.E t≠0→s.N t%2=0∧s.A t<64∧s.E t≤2
 en:∀ t,t<ns→s.E t≠0→C (8,t)=row [.iface 274 (pt (d (9,t)))]∧C (9,t)=row [pt (d (5,0)),I6 t,I6 t,I6 (s.A t),I6 ((s.E t:Int)-1)]
 wa:∀ t x st,t<ns→s.X t=some (x,st)→x.slot<ns∧x.st<3∧st<2^64∧C (10,t)=row [.iface 282 (pt (d (11,t)))]∧C (11,t)=row (eY x (d (5,0)) t st)
def wZ (s:ES) (t:Nat):Int:=if s.E t=1 then 14 else 13
def tw (s:ES) (t:Nat):Int:=match s.X t with
 |none=>17
 |some (x,_)=>if x.st=1 then 18 else 17
noncomputable def xE (ns:Nat):eG (iy ns) where
 hJ:=wZ
 h_:=tw
 CU:=13
 aE s t:=if s.E t=1 then bI t (2*t+1:Nat) 2 (s.V t) (s.A t) false else bI t (2*t:Nat) 2 (s.N t) ((s.N t:Int)+1) false
 aX s t:=bI t (2*t:Nat) 2 (s.N t) ((s.N t:Int)+1) false
 aW s t:=match s.X t with
  |some (x,_)=>bI t (if x.st=1 then 2*x.slot+1 else 2*x.slot:Nat) 1 (s.word x) (s.word x) false
  |none=>bI t 0 1 0 0 false
theorem zw {ns:Nat} (cq:0<ns∧ns≤64) {h:PT aj} {n:Nat} {d:Rl→Nat} {C:Rl→Option aj} {s:ES} {L:List Value} {t v:Nat} (S:St h n d C) (R:kJ ns s L d C) (ht:t<ns) (hv:v<64) (he:s.E t=0) (hi:decide (s.N t%2=1)=false):
  b9 Tryz.prog OP 69 [pt (d (4,0)),I6 t,I6 t,I6 v] h n fun r h' n'=>∃ d' C',r=dY [pt (d' (8,t)),I6 0]∧St h' n' d' C'∧kJ ns ((iy ns).enter s t v) L d' C'∧Fr d C d' C' t:=by
 obtain⟨⟨k,M⟩,E,num,vs,ev,en,wa⟩:=R
 have hlk:=M.len
 simp only[decide_eq_false_iff_not] at hi
 have hb0:bE s.E t=false:=by unfold bE;rw[he];rfl
 obtain⟨kk,r,h',n',e,p,q,q1,q2,q3,rfl,S'⟩:=Ih (t:=t) (s:=t) (base:=0) (th:=t) (v:=v) S E ⟨by omega,by omega⟩ (by omega) ht ⟨by omega,by omega⟩ (by rw[pV ht,hb0]) (by rw[oQ];omega)
 rw[zv (f':=s.N) (g':=bE (fs s.E t 1)) rfl (by unfold bE;rw[aA];rfl) (fun j c=>⟨rfl,by unfold bE;rw[az c]⟩)] at S'
 refine⟨kk,_,h',n',e,_,_,rR,S',⟨⟨k,((((M.dR (by omega)).dR (by omega)).dR (by omega)).kH (by omega)).kH (by omega)⟩,?_,num,vs,fun u hu hE=>?_,fun u hu hE=>?_,fun u x st hu hX=>?_⟩,?_⟩
 ·obtain⟨e1,e2,e3,e4,e5⟩:=E
  exact⟨rE e1,rE e2,rR,rE e4,fj⟩
 ·have jX:fs s.E t 1 u≠0:=hE
  show s.N u%2=0∧fs s.A t v u<64∧fs s.E t 1 u≤2
  by_cases c:u=t
  ·subst c;rw[aA,aA];exact⟨by omega,hv,by omega⟩
  ·rw[az c] at jX ⊢;rw[az c];exact ev u hu jX
 ·have jX:fs s.E t 1 u≠0:=hE
  show _∧_=row [_,_,_,I6 (fs s.A t v u:Nat),I6 ((fs s.E t 1 u:Nat)-1:Int)]
  by_cases c:u=t
  ·subst c
   rw[aA,aA]
   exact⟨rR,rT⟩
  ·rw[az c] at jX ⊢;rw[az c]
   obtain⟨a1,a2⟩:=en u hu jX
   exact⟨rE a1,rE a2⟩
 ·obtain⟨a1,a2,a3,a4,a5⟩:=wa u x st hu hX
  exact⟨a1,a2,a3,rE a4,rE a5⟩
 ·refine⟨fun a b c=>?_,fun u c=>⟨rR,rR⟩,rR,rR⟩
  exact⟨rR,rR⟩
theorem zy {ns:Nat} (cq:0<ns∧ns≤64) {h:PT aj} {n:Nat} {d:Rl→Nat} {C:Rl→Option aj} {s:ES} {L:List Value} {t:Nat} (S:St h n d C) (R:kJ ns s L d C) (hL:L.length≤540000) (ht:t<ns) (he:s.E t≠0):
  b9 Tryz.prog OP 57 [pt (d (8,t))] h n fun r h' n'=>∃ d' C',r=dY [U8 (wZ s t),.bool !(iy ns).br ((iy ns).aP s t) t]∧St h' n' d' C'∧kJ ns ((iy ns).aP s t) (L++(xE ns).aE s t) d' C'∧Fr d C d' C' t∧d' (8,t)=d (8,t):=by
 obtain⟨⟨k,M⟩,E,num,vs,ev,en,wa⟩:=R
 have hlk:=M.len
 obtain⟨a1,a2⟩:=en t ht he
 obtain⟨b1,b2,b3⟩:=ev t ht he
 have hnt:=num t ht
 have ef:∀ f,(nl (2*ns) f).length=2*ns:=fun f=>aV
 have eq:(iy ns).aP s t=if s.E t=1 then { s with V:=fs s.V t (s.A t),E:=fs s.E t 2 } else { s with N:=fs s.N t (s.N t+1),E:=fs s.E t 0 }:=rfl
 rw[eq]
 have haE:(xE ns).aE s t=if s.E t=1 then bI t (2*t+1:Nat) 2 (s.V t) (s.A t) false else bI t (2*t:Nat) 2 (s.N t) ((s.N t:Int)+1) false:=rfl
 rw[haE]
 unfold wZ
 by_cases c1:s.E t=1
 ·rw[if_pos c1,if_pos c1,if_pos c1]
  rw[c1] at a2
  obtain⟨kk,r,h',n',e,g,q1,q2,rfl,S'⟩:=L0 (t:=t) (s:=t) (ba:=2*t+1) (base:=0) (th:=t) (v:=s.A t) S E M (by omega) ⟨by omega,by omega⟩ (by omega) ht ⟨by omega,by omega⟩ (by omega) (by omega) (by rw[ef];omega) (by rw[ef];omega) a1 a2
  have dr:(nl (2*ns) (wE s.N s.V)).set (2*t+1) (s.A t:Int)=nl (2*ns) (wE s.N (fs s.V t (s.A t))):=jz (by rw[Mm,aA]) fun j _ c=>IE c
  rw[dr,cV,Mm] at S'
  have hM:∀ C g L',L'.length=(k+1)*6→dP (upd d rL g) (bM C (d rW) g (nl (2*ns) (wE s.N (fs s.V t (s.A t)))) L' (k+1)) (nl (2*ns) (wE s.N (fs s.V t (s.A t)))) L' (k+1):=fun C g L' hL=>dP.next (k:=k) (C:=C) (L:=L) (W:=nl (2*ns) (wE s.N s.V)) (by rw[ef,ef]) hL
  refine⟨kk,_,h',n',e,_,_,?_,S',⟨⟨k+1,(hM _ _ _ (by rw[List.length_append,M.len];show _+6=_;omega)).dR (by omega)⟩,?_,fun i hi=>by rw[List.length_append];exact Nat.le_trans (num i hi) (Nat.le_add_right _ _),fun i hi=>?_,fun u hu hE=>?_,fun u hu hE=>?_,fun u x st hu hX=>?_⟩,?_,rR⟩
  ·show _=dY [_,.bool !(decide (fs s.E t 2 t≠0))]
   rw[aA];rfl
  ·obtain⟨e1,e2,e3,e4,e5⟩:=E
   have FX:bE (fs s.E t 2)=bE s.E:=by
    funext i
    unfold bE
    by_cases c:i=t
    ·subst c;rw[aA,c1];rfl
    ·rw[az c]
   refine⟨rE e1,rE e2,?_,rE e4,fj⟩
   simp(disch:=first |decide |assumption |omega) only[rM,rW,rL,ah,au,aR,aG]
   show _=row (uU (pl ns s.N (bE (fs s.E t 2))))
   rw[FX];exact e3
  ·show fs s.V t (s.A t) i<64
   unfold fs;split
   ·exact b2
   ·exact vs i hi
  ·have jX:fs s.E t 2 u≠0:=hE
   show s.N u%2=0∧s.A u<64∧fs s.E t 2 u≤2
   by_cases c:u=t
   ·subst c;rw[aA];exact⟨b1,b2,Nat.le_refl _⟩
   ·rw[az c] at jX ⊢;exact ev u hu jX
  ·have jX:fs s.E t 2 u≠0:=hE
   show _∧_=row [_,_,_,_,I6 ((fs s.E t 2 u:Nat)-1:Int)]
   by_cases c:u=t
   ·subst c
    rw[aA]
    exact⟨rE a1,rT⟩
   ·rw[az c] at jX ⊢
    obtain⟨a1,a2⟩:=en u hu jX
    exact⟨rE a1,rE a2⟩
  ·obtain⟨a1,a2,a3,a4,a5⟩:=wa u x st hu hX
   exact⟨a1,a2,a3,rE a4,rE a5⟩
  ·refine⟨fun a b c=>?_,fun u c=>⟨rR,rR⟩,rR,rR⟩
   exact⟨rR,rR⟩
 ·rw[if_neg c1,if_neg c1,if_neg c1]
  have c2:s.E t=2:=by omega
  rw[c2] at a2
  obtain⟨kk,r,h',n',e,g,q1,q2,rfl,S'⟩:=Rp (t:=t) (s:=t) (ba:=2*t) (base:=0) (th:=t) (v:=s.A t) S E M (by omega) ⟨by omega,by omega⟩ (by omega) ht (pV ht) ⟨by omega,by omega⟩ (by omega) (by omega) (by rw[ef];omega) (by rw[ef];omega) a1 a2
  have dr:(nl (2*ns) (wE s.N s.V)).set (2*t) ((s.N t:Int)+1)=nl (2*ns) (wE (fs s.N t (s.N t+1)) s.V):=jz (by rw[B9,aA];omega) fun j _ c=>Aq c
  rw[dr,cV,B9] at S'
  rw[zv (x:=(s.N t:Int)+1) (b:=false) (f':=fs s.N t (s.N t+1)) (g':=bE (fs s.E t 0)) (by rw[aA];omega) (by unfold bE;rw[aA];rfl) (fun j c=>⟨az c,by unfold bE;rw[az c]⟩)] at S'
  have hM:∀ C g L',L'.length=(k+1)*6→dP (upd d rL g) (bM C (d rW) g (nl (2*ns) (wE (fs s.N t (s.N t+1)) s.V)) L' (k+1)) (nl (2*ns) (wE (fs s.N t (s.N t+1)) s.V)) L' (k+1):=fun C g L' hL=>dP.next (k:=k) (C:=C) (L:=L) (W:=nl (2*ns) (wE s.N s.V)) (by rw[ef,ef]) hL
  refine⟨kk,_,h',n',e,_,_,?_,S',⟨⟨k+1,((hM _ _ _ (by rw[List.length_append,M.len];show _+6=_;omega)).dR (by omega)).dR (by omega)⟩,?_,fun i hi=>?_,vs,fun u hu hE=>?_,fun u hu hE=>?_,fun u x st hu hX=>?_⟩,?_,rR⟩
  ·show _=dY [_,.bool !(decide (fs s.E t 0 t≠0))]
   rw[aA];rfl
  ·obtain⟨e1,e2,e3,e4,e5⟩:=E
   exact⟨rE e1,rE e2,rR,rE e4,fj⟩
  ·show fs s.N t (s.N t+1) i*6≤(L++bI _ _ _ _ _ _).length
   rw[List.length_append]
   show _≤L.length+6
   have:=num i hi
   unfold fs;split<;>omega
  ·have jX:fs s.E t 0 u≠0:=hE
   have c:u≠t:=fun q=>by subst q;rw[aA] at jX;omega
   show fs s.N t (s.N t+1) u%2=0∧s.A u<64∧fs s.E t 0 u≤2
   rw[az c] at jX ⊢;rw[az c];exact ev u hu jX
  ·have jX:fs s.E t 0 u≠0:=hE
   have c:u≠t:=fun q=>by subst q;rw[aA] at jX;omega
   show _∧_=row [_,_,_,_,I6 ((fs s.E t 0 u:Nat)-1:Int)]
   rw[az c] at jX ⊢
   obtain⟨a1,a2⟩:=en u hu jX
   exact⟨rE a1,rE a2⟩
  ·obtain⟨a1,a2,a3,a4,a5⟩:=wa u x st hu hX
   exact⟨a1,a2,a3,rE a4,rE a5⟩
  ·refine⟨fun a b c=>?_,fun u c=>⟨rR,rR⟩,rR,rR⟩
   exact⟨rR,rR⟩
theorem B_ {ns:Nat} (cq:0<ns∧ns≤64) {h:PT aj} {n:Nat} {d:Rl→Nat} {C:Rl→Option aj} {s:ES} {L:List Value} {t:Nat} (S:St h n d C) (R:kJ ns s L d C) (hL:L.length≤540000) (ht:t<ns) (hi:decide (s.N t%2=1)=true) (he:s.E t=0):
  b9 Tryz.prog OP 60 [pt (d (4,0)),I6 t,I6 t] h n fun r h' n'=>∃ d' C',r=dY [U8 13,I6 0]∧St h' n' d' C'∧kJ ns ((iy ns).exit s t) (L++(xE ns).aX s t) d' C'∧Fr d C d' C' t:=by
 obtain⟨⟨k,M⟩,E,num,vs,ev,en,wa⟩:=R
 have hlk:=M.len
 simp only[decide_eq_true_eq] at hi
 have hnt:=num t ht
 have ef:∀ f,(nl (2*ns) f).length=2*ns:=fun f=>aV
 obtain⟨kk,r,h',n',e,g,q1,q2,rfl,S'⟩:=L2 (s:=t) (ba:=2*t) (base:=0) (th:=t) S E M (by omega) ⟨by omega,by omega⟩ (by omega) ht (pV ht) ⟨by omega,by omega⟩ (by rw[oQ,hi];rfl) (by omega) (by omega) (by rw[ef];omega) (by rw[ef];omega)
 have dr:(nl (2*ns) (wE s.N s.V)).set (2*t) ((s.N t:Int)+1)=nl (2*ns) (wE (fs s.N t (s.N t+1)) s.V):=jz (by rw[B9,aA];omega) fun j _ c=>Aq c
 rw[dr,cV,B9] at S'
 rw[zv (f':=fs s.N t (s.N t+1)) (g':=bE s.E) (by rw[aA];omega) rfl (fun j c=>⟨az c,rfl⟩)] at S'
 have hM:∀ C g L',L'.length=(k+1)*6→dP (upd d rL g) (bM C (d rW) g (nl (2*ns) (wE (fs s.N t (s.N t+1)) s.V)) L' (k+1)) (nl (2*ns) (wE (fs s.N t (s.N t+1)) s.V)) L' (k+1):=fun C g L' hL=>dP.next (k:=k) (C:=C) (L:=L) (W:=nl (2*ns) (wE s.N s.V)) (by rw[ef,ef]) hL
 refine⟨kk,_,h',n',e,_,_,rfl,S',⟨⟨k+1,hM _ _ _ (by rw[List.length_append,M.len];show _+6=_;omega)⟩,?_,fun i hi=>?_,vs,fun u hu hE=>?_,fun u hu hE=>?_,fun u x st hu hX=>?_⟩,?_⟩
 ·obtain⟨e1,e2,e3,e4,e5⟩:=E
  exact⟨rE e1,rE e2,rR,rE e4,fj⟩
 ·show fs s.N t (s.N t+1) i*6≤(L++bI _ _ _ _ _ _).length
  rw[List.length_append]
  show _≤L.length+6
  have:=num i hi
  unfold fs;split<;>omega
 ·have jX:s.E u≠0:=hE
  have c:u≠t:=fun q=>by subst q;omega
  show fs s.N t (s.N t+1) u%2=0∧_;rw[az c];exact ev u hu jX
 ·obtain⟨a1,a2⟩:=en u hu hE
  exact⟨rE a1,rE a2⟩
 ·obtain⟨a1,a2,a3,a4,a5⟩:=wa u x st hu hX
  exact⟨a1,a2,a3,rE a4,rE a5⟩
 ·refine⟨fun a b c=>?_,fun u c=>⟨rR,rR⟩,rR,rR⟩
  exact⟨rR,rR⟩
theorem Ca {ns:Nat} (cq:0<ns∧ns≤64) {h:PT aj} {n:Nat} {d:Rl→Nat} {C:Rl→Option aj} {s:ES} {L:List Value} {t st:Nat} (S:St h n d C) (R:kJ ns s L d C) (ht:t<ns) (h0:st≠0) (h1:st<2^64):
  b9 Tryz.prog OP 71 [pt (d (4,0)),I6 t,U6 st] h n fun r h' n'=>∃ d' C',r=dY [pt (d' (10,t)),I6 0]∧St h' n' d' C'∧kJ ns ((iy ns).wait s t st) L d' C'∧Fr d C d' C' t:=by
 obtain⟨⟨k,M⟩,E,num,vs,ev,en,wa⟩:=R
 have hlk:=M.len
 obtain⟨kk,r,h',n',e,p,q,q1,q2,q3,rfl,S'⟩:=L3 (t:=t) (base:=0) (th:=t) (set:=st) S E ⟨by omega,by omega⟩ (by omega)
 refine⟨kk,_,h',n',e,_,_,rR,S',⟨⟨k,(((M.dR (by omega)).dR (by omega)).kH (by omega)).kH (by omega)⟩,?_,num,vs,ev,fun u hu hE=>?_,fun u x s2 hu hX=>?_⟩,?_⟩
 ·obtain⟨e1,e2,e3,e4,e5⟩:=E
  exact⟨rE e1,rE e2,rE e3,rE e4,e5⟩
 ·obtain⟨a1,a2⟩:=en u hu hE
  exact⟨rE a1,rE a2⟩
 ·have B6:fs s.X t (some (⟨0,0,0⟩,st)) u=some (x,s2):=hX
  by_cases c:u=t
  ·subst c
   rw[aA] at B6
   obtain⟨rfl,rfl⟩:=Prod.mk.inj (Option.some.inj B6)
   exact⟨cq.1,by show 0<3;omega,h1,rR,rT⟩
  ·rw[az c] at B6
   obtain⟨a1,a2,a3,a4,a5⟩:=wa u x s2 hu B6
   exact⟨a1,a2,a3,rE a4,rE a5⟩
 ·refine⟨fun a b c=>?_,fun u c=>⟨rR,rR⟩,rR,rR⟩
  exact⟨rR,rR⟩
theorem IF {ns:Nat} {x:EW} {st w:Int} (h:x.slot<ns) (hx:x.st<3) (he:(x.step ns st w).st≠3):(x.step ns st w).slot<ns∧(x.step ns st w).st<3:=by
 have nx:∀ y:EW,y.slot<ns→(y.next ns).st≠3→(y.next ns).slot<ns∧(y.next ns).st<3:=fun y h1 h2=>by
  unfold EW.next at*
  by_cases c:y.slot+1=ns
  ·rw[if_pos c] at h2;exact absurd rfl h2
  ·rw[if_neg c];exact⟨by show y.slot+1<ns;omega,by show 0<3;omega⟩
 unfold EW.step at*
 split
 ·rename_i c;rw[if_pos c] at he
  split
  ·exact⟨h,by show 1<3;omega⟩
  ·rename_i c2;rw[if_neg c2] at he;exact nx _ h he
 ·rename_i c;rw[if_neg c] at he
  split
  ·rename_i c2;rw[if_pos c2] at he
   split
   ·exact⟨h,by show 2<3;omega⟩
   ·rename_i c3;rw[if_neg c3] at he;exact nx _ h he
  ·rename_i c2;rw[if_neg c2] at he
   split
   ·exact⟨h,hx⟩
   ·rename_i c3;rw[if_neg c3] at he;exact nx _ h he
theorem zz {ns:Nat} (cq:0<ns∧ns≤64) {h:PT aj} {n:Nat} {d:Rl→Nat} {C:Rl→Option aj} {s:ES} {L:List Value} {t:Nat} (S:St h n d C) (R:kJ ns s L d C) (hL:L.length≤540000) (ht:t<ns) (hw:(s.X t).isSome=true):
  b9 Tryz.prog OP 59 [pt (d (10,t))] h n fun r h' n'=>∃ d' C',r=dY [U8 (tw s t),.bool !(iy ns).wt ((iy ns).aQ s t) t]∧St h' n' d' C'∧kJ ns ((iy ns).aQ s t) (L++(xE ns).aW s t) d' C'∧Fr d C d' C' t∧d' (10,t)=d (10,t):=by
 obtain⟨⟨k,M⟩,E,num,vs,ev,en,wa⟩:=R
 have hlk:=M.len
 obtain⟨⟨x,st⟩,hX⟩:=Option.isSome_iff_exists.1 hw
 obtain⟨a1,a2,a3,a4,a5⟩:=wa t x st ht hX
 have hnt:=num x.slot a1
 have hvt:=vs x.slot a1
 have ef:∀ f,(nl (2*ns) f).length=2*ns:=fun f=>aV
 have key:b9 Tryz.prog OP 59 [pt (d (10,t))] h n fun r h' n'=>∃ (g:Nat),r=dY [U8 (if x.st=1 then 18 else 17),.bool (decide ((x.step ns st (s.word x)).st=3))]∧St h' n' (upd d rL g) (upd (bM C (d rW) g (nl (2*ns) (wE s.N s.V)) (L++bI t (if x.st=1 then 2*x.slot+1 else 2*x.slot:Nat) 1 (s.word x) (s.word x) false) (k+1)) (11,t) (row (eY (x.step ns st (s.word x)) (d (5,0)) t st))):=by
  by_cases c1:x.st=1
  ·have ew:s.word x=s.V x.slot:=if_pos c1
   rw[ew,if_pos c1,if_pos c1]
   obtain⟨kk,r,h',n',e,g,q1,q2,rfl,S'⟩:=Ik (t:=t) (ba:=2*x.slot+1) (base:=0) (th:=t) (set:=st) (w:=s.V x.slot) S E M (by omega) ⟨by omega,by omega⟩ (by omega) a1 (by omega) (by omega) (by rw[ef];omega) (by rw[ef];omega) (by rw[cV,Mm]) ⟨by omega,by omega⟩ ⟨by omega,by omega⟩ c1 a4 a5
   exact⟨kk,_,h',n',e,g,rfl,S'⟩
  ·have ew:s.word x=s.N x.slot:=if_neg c1
   rw[ew,if_neg c1,if_neg c1]
   by_cases c0:x.st=0
   ·obtain⟨kk,r,h',n',e,g,q1,q2,rfl,S'⟩:=L4 (t:=t) (ba:=2*x.slot) (base:=0) (th:=t) (set:=st) (w:=s.N x.slot) S E M (by omega) ⟨by omega,by omega⟩ (by omega) a1 (by omega) (by omega) (by rw[ef];omega) (by rw[ef];omega) (by rw[cV,B9]) ⟨by omega,by omega⟩ c0 a4 a5
    exact⟨kk,_,h',n',e,g,rfl,S'⟩
   ·obtain⟨kk,r,h',n',e,g,q1,q2,rfl,S'⟩:=Ij (t:=t) (ba:=2*x.slot) (base:=0) (th:=t) (set:=st) (w:=s.N x.slot) S E M (by omega) ⟨by omega,by omega⟩ (by omega) a1 (by omega) (by omega) (by rw[ef];omega) (by rw[ef];omega) (by rw[cV,B9]) ⟨by omega,by omega⟩ (by omega) a4 a5
    exact⟨kk,_,h',n',e,g,rfl,S'⟩
 rw[gO hX]
 have Y5:(xE ns).aW s t=bI t (if x.st=1 then 2*x.slot+1 else 2*x.slot:Nat) 1 (s.word x) (s.word x) false:=by show (match s.X t with |some (x,_)=>_ |none=>_)=_;rw[hX]
 have hpW:tw s t=if x.st=1 then 18 else 17:=by unfold tw;rw[hX]
 rw[Y5,hpW]
 obtain⟨kk,r,h',n',e,g,rfl,S'⟩:=key
 have hM:∀ C g L',L'.length=(k+1)*6→dP (upd d rL g) (bM C (d rW) g (nl (2*ns) (wE s.N s.V)) L' (k+1)) (nl (2*ns) (wE s.N s.V)) L' (k+1):=fun C g L' hL=>dP.next (k:=k) (C:=C) (L:=L) (W:=nl (2*ns) (wE s.N s.V)) rfl hL
 refine⟨kk,_,h',n',e,_,_,?_,S',⟨⟨k+1,(hM _ _ _ (by rw[List.length_append,M.len];show _+6=_;omega)).dR (by omega)⟩,?_,fun i hi=>by rw[List.length_append];exact Nat.le_trans (num i hi) (Nat.le_add_right _ _),vs,ev,fun u hu hE=>?_,fun u y s2 hu hY=>?_⟩,?_,rR⟩
 ·show _=dY [_,.bool !((fs s.X t _ t).isSome)]
  rw[aA]
  by_cases c:(x.step ns st (s.word x)).st=3
  ·rw[if_pos c,decide_eq_true c];rfl
  ·rw[if_neg c,decide_eq_false c];rfl
 ·obtain⟨e1,e2,e3,e4,e5⟩:=E
  exact⟨rE e1,rE e2,rE e3,rE e4,e5⟩
 ·obtain⟨a1,a2⟩:=en u hu hE
  exact⟨rE a1,rE a2⟩
 ·have zu:fs s.X t _ u=some (y,s2):=hY
  by_cases c:u=t
  ·subst c
   rw[aA] at zu
   by_cases he:(x.step ns st (s.word x)).st=3
   ·rw[if_pos he] at zu;simp at zu
   ·rw[if_neg he] at zu
    obtain⟨rfl,rfl⟩:=Prod.mk.inj (Option.some.inj zu)
    obtain⟨z1,z2⟩:=IF a1 a2 he
    exact⟨z1,z2,a3,rE a4,rR⟩
  ·rw[az c] at zu
   obtain⟨a1,a2,a3,a4,a5⟩:=wa u y s2 hu zu
   exact⟨a1,a2,a3,rE a4,rE a5⟩
 ·refine⟨fun a b c=>?_,fun u c=>⟨rR,rR⟩,rR,rR⟩
  exact⟨rR,rR⟩
theorem Cb {ns:Nat} {d:Rl→Nat} {C:Rl→Option aj} {s:ES} {L:List Value} {a b:Nat} {B:Option aj} (R:kJ ns s L d C) (ha:30≤a):kJ ns s L d (upd C (a,b) B):=by
 obtain⟨⟨k,M⟩,⟨e1,e2,e3,e4,e5⟩,num,vs,ev,en,wa⟩:=R
 refine⟨⟨k,M.dR (by omega)⟩,⟨rE e1,rE e2,rE e3,rE e4,e5⟩,num,vs,ev,fun u hu hE=>?_,fun u x st hu hX=>?_⟩
 ·obtain⟨a1,a2⟩:=en u hu hE
  exact⟨rE a1,rE a2⟩
 ·obtain⟨a1,a2,a3,a4,a5⟩:=wa u x st hu hX
  exact⟨a1,a2,a3,rE a4,rE a5⟩
theorem Cc {ns:Nat} {d:Rl→Nat} {C:Rl→Option aj} {s:ES} {L:List Value} {a b i:Nat} (R:kJ ns s L d C) (ha:30≤a):kJ ns s L (upd d (a,b) i) C:=by
 obtain⟨⟨k,M⟩,⟨e1,e2,e3,e4,e5⟩,num,vs,ev,en,wa⟩:=R
 refine⟨⟨k,M.kH (by omega)⟩,⟨rE e1,rE e2,e3,e4,e5⟩,num,vs,ev,fun u hu hE=>?_,fun u x st hu hX=>?_⟩
 ·obtain⟨a1,a2⟩:=en u hu hE
  exact⟨rE a1,rE a2⟩
 ·obtain⟨a1,a2,a3,a4,a5⟩:=wa u x st hu hX
  exact⟨a1,a2,a3,rE a4,rE a5⟩
theorem RL {ns:Nat} (cq:0<ns∧ns≤64):gp (iy ns) (xE ns) ns (kJ ns):=⟨fun {h n d C s k t v} S R hk ht hv he hi hw=>zw cq S R ht hv (by have he':decide (s.E t≠0)=false:=he;simpa using he') hi,fun {h n d C s k t} S R hk ht he hi=>zy cq S R hk ht (by have he':decide (s.E t≠0)=true:=he;simpa using he'),fun {h n d C s k t} S R hk ht hi he=>B_ cq S R hk ht hi (by have he':decide (s.E t≠0)=false:=he;simpa using he'),fun S R hk ht h0 h1 hw=>Ca cq S R ht h0 h1,fun S R hk ht hw=>zz cq S R hk ht hw,fun s t=>⟨by
  show jc t (if s.E t=1 then _ else _)
  split<;>exact⟨_,_,_,_,_,rfl⟩,by
  show jc t (match s.X t with |some (x,_)=>_ |none=>_)
  cases s.X t<;>exact⟨_,_,_,_,_,rfl⟩,⟨_,_,_,_,_,rfl⟩⟩,⟨fun s t=>by show 1<wZ s t∧wZ s t<256;unfold wZ;split<;>decide,fun s t=>by
  show 1<tw s t∧tw s t<256
  unfold tw
  split
  ·decide
  ·split<;>decide,(by decide:(1:Int)<13),(by decide:(13:Int)<256)⟩,fun R=>by
  obtain⟨k,M⟩:=R.mem
  exact⟨_,k,M,by rw[aV];omega⟩,Cb,Cc
 ⟩
def ES.new:ES:=⟨fun _=>0,fun _=>0,fun _=>0,fun _=>0,fun _=>none⟩
theorem IG:wE (fun _=>0) (fun _=>0)=fun _=>0:=by funext i;unfold wE;split<;>rfl
theorem II {ns:Nat}:pl ns (fun _=>0) (bE fun _=>0)=List.replicate ns (0,false):=by
 unfold pl
 apply List.ext_getElem?
 intro j
 rw[List.getElem?_replicate,List.getElem?_map]
 by_cases c:j<ns
 ·rw[if_pos c,List.getElem?_range c];rfl
 ·rw[if_neg c,List.getElem?_eq_none (by rw[List.length_range];omega)];rfl
theorem Fc {ns:Nat} {d:Rl→Nat} {C:Rl→Option aj} (M:dP d C (nl (2*ns) fun _=>0) [] 0) (E:qD d C 0 ns (List.replicate ns (0,false))):kJ ns ES.new [] d C:=
 ⟨⟨0,by show dP d C (nl (2*ns) (wE (fun _=>0) fun _=>0)) [] 0;rw[IG];exact M⟩,by show qD d C 0 ns (pl ns (fun _=>0) (bE fun _=>0));rw[II];exact E,fun _ _=>Nat.le_refl _,fun _ _=>(by decide:0<64),fun _ _ h=>by simp[ES.new] at h,fun _ _ h=>by simp[ES.new] at h,fun _ _ _ _ h=>by simp[ES.new] at h⟩
end Go.Proofs.YtbceiadaihphaaaGreat
