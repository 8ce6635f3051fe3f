/-
  A part of the proof: contracts of inner functions.
-/
import Derived.Test.YtbceiadaihphaaaGreatRV5
set_option linter.unusedVariables false
set_option linter.unusedSimpArgs false
namespace Go.Proofs.YtbceiadaihphaaaGreat
open Go.Am
def nums (p:Nat→Bool) (n:Nat):List Int:=((List.range n).filter p).map fun v:Nat=>(v:Int)
end Go.Proofs.YtbceiadaihphaaaGreat
namespace Go.Proofs.YtbceiadaihphaaaGreat
open Go.Am
structure Fr (d:Rl→Nat) (C:Rl→Option aj) (d':Rl→Nat) (C':Rl→Option aj) (t:Nat):Prop where
 dZ:∀ a b,30≤a→d' (a,b)=d (a,b)∧C' (a,b)=C (a,b)
 ptr:∀ u,u≠t→d' (8,u)=d (8,u)∧d' (10,u)=d (10,u)
 uT:d' (4,0)=d (4,0)
 mem:d' rM=d rM
structure eG (e:gT) where
 hJ:e.σ→Nat→Int
 h_:e.σ→Nat→Int
 CU:Int
 aE:e.σ→Nat→List Value
 aW:e.σ→Nat→List Value
 aX:e.σ→Nat→List Value
def jc (t:Nat) (a:List Value):Prop:=∃ ad kd o n sw,a=bI t ad kd o n sw
structure gp (e:gT) (x:eG e) (ns:Nat) (rep:e.σ→List Value→(Rl→Nat)→(Rl→Option aj)→Prop):Prop where
 Mj:∀ {h:PT aj} {n:Nat} {d:Rl→Nat} {C:Rl→Option aj} {s:e.σ} {k:List Value} {t v:Nat},St h n d C→rep s k d C→k.length≤540000→t<ns→v<64→e.br s t=false→e.bB s t=false→e.wt s t=false→
  b9 Tryz.prog OP 69 [pt (d (4,0)),I6 t,I6 t,I6 v] h n fun r h' n'=>∃ d' C',r=dY [pt (d' (8,t)),I6 0]∧St h' n' d' C'∧rep (e.enter s t v) k d' C'∧Fr d C d' C' t
 Ml:∀ {h:PT aj} {n:Nat} {d:Rl→Nat} {C:Rl→Option aj} {s:e.σ} {k:List Value} {t:Nat},St h n d C→rep s k d C→k.length≤540000→t<ns→e.br s t=true→e.bB s t=false→
  b9 Tryz.prog OP 57 [pt (d (8,t))] h n fun r h' n'=>∃ d' C',r=dY [U8 (x.hJ s t),.bool !e.br (e.aP s t) t]∧St h' n' d' C'∧rep (e.aP s t) (k++x.aE s t) d' C'∧Fr d C d' C' t∧d' (8,t)=d (8,t)
 RI:∀ {h:PT aj} {n:Nat} {d:Rl→Nat} {C:Rl→Option aj} {s:e.σ} {k:List Value} {t:Nat},St h n d C→rep s k d C→k.length≤540000→t<ns→e.bB s t=true→e.br s t=false→
  b9 Tryz.prog OP 60 [pt (d (4,0)),I6 t,I6 t] h n fun r h' n'=>∃ d' C',r=dY [U8 x.CU,I6 0]∧St h' n' d' C'∧rep (e.exit s t) (k++x.aX s t) d' C'∧Fr d C d' C' t
 RJ:∀ {h:PT aj} {n:Nat} {d:Rl→Nat} {C:Rl→Option aj} {s:e.σ} {k:List Value} {t st:Nat},St h n d C→rep s k d C→k.length≤540000→t<ns→st≠0→st<2^64→e.wt s t=false→
  b9 Tryz.prog OP 71 [pt (d (4,0)),I6 t,U6 st] h n fun r h' n'=>∃ d' C',r=dY [pt (d' (10,t)),I6 0]∧St h' n' d' C'∧rep (e.wait s t st) k d' C'∧Fr d C d' C' t
 E_:∀ {h:PT aj} {n:Nat} {d:Rl→Nat} {C:Rl→Option aj} {s:e.σ} {k:List Value} {t:Nat},St h n d C→rep s k d C→k.length≤540000→t<ns→e.wt s t=true→
  b9 Tryz.prog OP 59 [pt (d (10,t))] h n fun r h' n'=>∃ d' C',r=dY [U8 (x.h_ s t),.bool !e.wt (e.aQ s t) t]∧St h' n' d' C'∧rep (e.aQ s t) (k++x.aW s t) d' C'∧Fr d C d' C' t∧d' (10,t)=d (10,t)
 Fa:∀ s t,jc t (x.aE s t)∧jc t (x.aW s t)∧jc t (x.aX s t)
 OL:(∀ s t,1<x.hJ s t∧x.hJ s t<256)∧(∀ s t,1<x.h_ s t∧x.h_ s t<256)∧1<x.CU∧x.CU<256
 mem:∀ {s:e.σ} {L:List Value} {d:Rl→Nat} {C:Rl→Option aj},rep s L d C→∃ W k,dP d C W L k∧W.length≤100000
 bC:∀ {d:Rl→Nat} {C:Rl→Option aj} {s:e.σ} {k:List Value} {a b:Nat} {B:Option aj},rep s k d C→30≤a→rep s k d (upd C (a,b) B)
 B3:∀ {d:Rl→Nat} {C:Rl→Option aj} {s:e.σ} {k:List Value} {a b i:Nat},rep s k d C→30≤a→rep s k (upd d (a,b) i) C
def nl (m:Nat) (f:Nat→Nat):List Int:=(List.range m).map fun i=>(f i:Int)
theorem aV {m:Nat} {f:Nat→Nat}:(nl m f).length=m:=by simp[nl]
theorem nX {m:Nat} {f:Nat→Nat} {i:Nat} (hi:i<m):(nl m f)[i]? = some (f i:Int):=by
 unfold nl;rw[List.getElem?_map,List.getElem?_range hi];rfl
theorem cV {m:Nat} {f:Nat→Nat} {i:Nat} (hi:i<(nl m f).length):(nl m f)[i]=(f i:Int):=by
 have h:=nX (f:=f) (show i<m by rw[aV] at hi;exact hi)
 rw[List.getElem?_eq_getElem hi] at h;exact Option.some.inj h
theorem jz {m:Nat} {f g:Nat→Nat} {i:Nat} {x:Int} (hx:x=(g i:Int)) (hg:∀ j,j<m→j≠i→g j=f j):(nl m f).set i x=nl m g:=by
 apply List.ext_getElem?
 intro j
 rw[List.getElem?_set]
 by_cases c:i=j
 ·subst c
  rw[if_pos rfl]
  by_cases c2:i<m
  ·rw[if_pos (by rw[aV];exact c2),nX c2,hx]
  ·rw[if_neg (by rw[aV];exact c2)]
   rw[List.getElem?_eq_none (by rw[aV];omega)]
 ·rw[if_neg c]
  by_cases c2:j<m
  ·rw[nX c2,nX c2,hg j c2 (fun q=>c q.symm)]
  ·rw[List.getElem?_eq_none (by rw[aV];omega),List.getElem?_eq_none (by rw[aV];omega)]
def bl (m:Nat) (f:Nat→Bool):List Bool:=(List.range m).map f
theorem fW {m:Nat} {f:Nat→Bool}:(bl m f).length=m:=by simp[bl]
theorem uY {m:Nat} {f:Nat→Bool} {i:Nat} (hi:i<m):(bl m f)[i]? = some (f i):=by
 unfold bl;rw[List.getElem?_map,List.getElem?_range hi];rfl
theorem Fb {m:Nat} {f:Nat→Bool} {i:Nat} {x:Bool}:(bl m f).set i x=bl m (fs f i x):=by
 apply List.ext_getElem?
 intro j
 rw[List.getElem?_set]
 by_cases c:i=j
 ·subst c
  rw[if_pos rfl]
  by_cases c2:i<m
  ·rw[if_pos (by rw[fW];exact c2),uY c2,aA]
  ·rw[if_neg (by rw[fW];exact c2)]
   rw[List.getElem?_eq_none (by rw[fW];omega)]
 ·rw[if_neg c]
  by_cases c2:j<m
  ·rw[uY c2,uY c2,az (fun q=>c q.symm)]
  ·rw[List.getElem?_eq_none (by rw[fW];omega),List.getElem?_eq_none (by rw[fW];omega)]
end Go.Proofs.YtbceiadaihphaaaGreat
namespace Go.Proofs.YtbceiadaihphaaaGreat
open Go.Am
structure kI (ns:Nat) (s:FS) (L:List Value) (d:Rl→Nat) (C:Rl→Option aj):Prop where
 mem:∃ k,dP d C (nl ns s.N) L k
 xM:wR d C 0 ns (nl ns s.N) (bl ns s.E)
 num:∀ i,i<ns→s.N i*6≤L.length
 ev:∀ t,t<ns→s.E t=true→s.N t%2=0
 en:∀ t,t<ns→s.E t=true→C (8,t)=row [.iface 258 (pt (d (9,t)))]∧C (9,t)=row [pt (d (5,0)),I6 t,I6 t,.func (.func 139) ⟨[pt (d (9,t))]⟩ ⟨[]⟩]
 wa:∀ t x,t<ns→s.X t=some x→x.slot<ns∧x.ended=false∧C (10,t)=row [.iface 261 (pt (d (11,t)))]∧C (11,t)=row (gy x (d (5,0)) (d (11,t)) t)
noncomputable def xF (ns:Nat):eG (jV ns) where
 hJ _ _:=13
 h_ _ _:=17
 CU:=13
 aE s t:=bI t t 2 (s.N t) ((s.N t:Int)+1) false
 aX s t:=bI t t 2 (s.N t) ((s.N t:Int)+1) false
 aW s t:=match s.X t with
  |some x=>bI t x.slot 1 (s.N x.slot) (s.N x.slot) false
  |none=>bI t 0 1 0 0 false
theorem oQ {x:Nat}:((x:Nat):Int).tmod 2=((x%2:Nat):Int):=rfl
theorem zn {ns:Nat} (cq:0<ns∧ns≤64) {h:PT aj} {n:Nat} {d:Rl→Nat} {C:Rl→Option aj} {s:FS} {L:List Value} {t v:Nat} (S:St h n d C) (R:kI ns s L d C) (ht:t<ns) (hv:v<64) (he:s.E t=false) (hi:decide (s.N t%2=1)=false):
  b9 Tryz.prog OP 69 [pt (d (4,0)),I6 t,I6 t,I6 v] h n fun r h' n'=>∃ d' C',r=dY [pt (d' (8,t)),I6 0]∧St h' n' d' C'∧kI ns ((jV ns).enter s t v) L d' C'∧Fr d C d' C' t:=by
 obtain⟨⟨k,M⟩,E,num,ev,en,wa⟩:=R
 have hlk:=M.len
 simp only[decide_eq_false_iff_not] at hi
 obtain⟨kk,r,h',n',e,p,q,q1,q2,q3,rfl,S'⟩:=Ic (t:=t) (s:=t) (base:=0) (th:=t) (v:=v) S E ⟨by omega,by omega⟩ (by omega) ht ⟨by omega,by omega⟩ (by rw[uY ht,he]) ⟨_,nX ht,by rw[oQ];omega⟩
 refine⟨kk,_,h',n',e,_,_,rR,S',⟨⟨k,((((M.dR (by omega)).dR (by omega)).dR (by omega)).kH (by omega)).kH (by omega)⟩,?_,num,fun u hu hE=>?_,fun u hu hE=>?_,fun u x hu hX=>?_⟩,?_⟩
 ·obtain⟨e1,e2,e3,e4,e5,e6⟩:=E
  exact⟨rE e1,rE e2,rE e3,by simp(disch:=first |decide |assumption |omega) only[rM,rW,rL,ah,au,aR,aG];rw[Fb],e5,fW⟩
 ·have jX:fs s.E t true u=true:=hE
  show s.N u%2=0
  by_cases c:u=t
  ·subst c;omega
  ·rw[az c] at jX;exact ev u hu jX
 ·have jX:fs s.E t true u=true:=hE
  by_cases c:u=t
  ·subst c
   exact⟨rR,rR⟩
  ·rw[az c] at jX
   obtain⟨a1,a2⟩:=en u hu jX
   exact⟨rE a1,rE a2⟩
 ·obtain⟨a1,a2,a3,a4⟩:=wa u x hu hX
  exact⟨a1,a2,rE a3,rE a4⟩
 ·refine⟨fun a b c=>?_,fun u c=>⟨rR,rR⟩,rR,rR⟩
  exact⟨rR,rR⟩
theorem zo {ns:Nat} (cq:0<ns∧ns≤64) {h:PT aj} {n:Nat} {d:Rl→Nat} {C:Rl→Option aj} {s:FS} {L:List Value} {t:Nat} (S:St h n d C) (R:kI ns s L d C) (hL:L.length≤540000) (ht:t<ns) (he:s.E t=true):
  b9 Tryz.prog OP 57 [pt (d (8,t))] h n fun r h' n'=>∃ d' C',r=dY [U8 13,.bool !(jV ns).br ((jV ns).aP s t) t]∧St h' n' d' C'∧kI ns ((jV ns).aP s t) (L++(xF ns).aE s t) d' C'∧Fr d C d' C' t∧d' (8,t)=d (8,t):=by
 obtain⟨⟨k,M⟩,E,num,ev,en,wa⟩:=R
 have hlk:=M.len
 obtain⟨a1,a2⟩:=en t ht he
 have hnt:=num t ht
 have ef:∀ f,(nl ns f).length=ns:=fun f=>aV
 obtain⟨kk,r,h',n',e,g,q1,q2,rfl,S'⟩:=Ie (t:=t) (s:=t) (ba:=t) (base:=0) (th:=t) S E M (by omega) ⟨by omega,by omega⟩ (by omega) ht (nX ht) ⟨by omega,by omega⟩ (by omega) (by rw[ef];exact ht) (by rw[ef];omega) a1 a2
 have dr:(nl ns s.N).set t ((s.N t:Int)+1)=nl ns (fs s.N t (s.N t+1)):=jz (by rw[aA];omega) fun j _ c=>az c
 rw[dr,cV] at S'
 have hM:∀ C g L',L'.length=(k+1)*6→dP (upd d rL g) (bM C (d rW) g (nl ns (fs s.N t (s.N t+1))) L' (k+1)) (nl ns (fs s.N t (s.N t+1))) L' (k+1):=fun C g L' hL=>dP.next (k:=k) (C:=C) (L:=L) (W:=nl ns s.N) (by rw[ef,ef]) hL
 refine⟨kk,_,h',n',e,_,_,?_,S',⟨⟨k+1,((hM _ _ _ (by rw[List.length_append,M.len];show _+6=_;omega)).dR (by omega)).dR (by omega)⟩,?_,fun i hi=>?_,fun u hu hE=>?_,fun u hu hE=>?_,fun u x hu hX=>?_⟩,?_,rR⟩
 ·show _=dY [_,.bool !(fs s.E t false t)]
  rw[aA];rfl
 ·obtain⟨e1,e2,e3,e4,e5,e6⟩:=E
  exact⟨rE e1,rE e2,rR,by simp(disch:=first |decide |assumption |omega) only[rM,rW,rL,ah,au,aR,aG];rw[Fb],aV,fW⟩
 ·show fs s.N t (s.N t+1) i*6≤(L++bI _ _ _ _ _ _).length
  rw[List.length_append]
  show _≤L.length+6
  have:=num i hi
  unfold fs;split<;>omega
 ·have jX:fs s.E t false u=true:=hE
  by_cases c:u=t
  ·subst c;rw[aA] at jX;simp at jX
  ·rw[az c] at jX;show fs s.N t (s.N t+1) u%2=0;rw[az c];exact ev u hu jX
 ·have jX:fs s.E t false u=true:=hE
  by_cases c:u=t
  ·subst c;rw[aA] at jX;simp at jX
  ·rw[az c] at jX
   obtain⟨a1,a2⟩:=en u hu jX
   exact⟨rE a1,rE a2⟩
 ·obtain⟨a1,a2,a3,a4⟩:=wa u x hu hX
  exact⟨a1,a2,rE a3,rE a4⟩
 ·refine⟨fun a b c=>?_,fun u c=>⟨rR,rR⟩,rR,rR⟩
  exact⟨rR,rR⟩
theorem B4 {ns:Nat} (cq:0<ns∧ns≤64) {h:PT aj} {n:Nat} {d:Rl→Nat} {C:Rl→Option aj} {s:FS} {L:List Value} {t:Nat} (S:St h n d C) (R:kI ns s L d C) (hL:L.length≤540000) (ht:t<ns) (hi:decide (s.N t%2=1)=true) (he:s.E t=false):
  b9 Tryz.prog OP 60 [pt (d (4,0)),I6 t,I6 t] h n fun r h' n'=>∃ d' C',r=dY [U8 13,I6 0]∧St h' n' d' C'∧kI ns ((jV ns).exit s t) (L++(xF ns).aX s t) d' C'∧Fr d C d' C' t:=by
 obtain⟨⟨k,M⟩,E,num,ev,en,wa⟩:=R
 have hlk:=M.len
 simp only[decide_eq_true_eq] at hi
 have hnt:=num t ht
 have ef:∀ f,(nl ns f).length=ns:=fun f=>aV
 obtain⟨kk,r,h',n',e,g,q1,q2,rfl,S'⟩:=LY (s:=t) (ba:=t) (base:=0) (th:=t) S E M (by omega) ⟨by omega,by omega⟩ (by omega) ht (nX ht) ⟨by omega,by omega⟩ (by rw[oQ,hi];rfl) (by omega) (by rw[ef];exact ht) (by rw[ef];omega)
 have dr:(nl ns s.N).set t ((s.N t:Int)+1)=nl ns (fs s.N t (s.N t+1)):=jz (by rw[aA];omega) fun j _ c=>az c
 rw[dr,cV] at S'
 have hM:∀ C g L',L'.length=(k+1)*6→dP (upd d rL g) (bM C (d rW) g (nl ns (fs s.N t (s.N t+1))) L' (k+1)) (nl ns (fs s.N t (s.N t+1))) L' (k+1):=fun C g L' hL=>dP.next (k:=k) (C:=C) (L:=L) (W:=nl ns s.N) (by rw[ef,ef]) hL
 refine⟨kk,_,h',n',e,_,_,rfl,S',⟨⟨k+1,hM _ _ _ (by rw[List.length_append,M.len];show _+6=_;omega)⟩,?_,fun i hi=>?_,fun u hu hE=>?_,fun u hu hE=>?_,fun u x hu hX=>?_⟩,?_⟩
 ·obtain⟨e1,e2,e3,e4,e5,e6⟩:=E
  exact⟨rE e1,rE e2,rR,rE e4,aV,e6⟩
 ·show fs s.N t (s.N t+1) i*6≤(L++bI _ _ _ _ _ _).length
  rw[List.length_append]
  show _≤L.length+6
  have:=num i hi
  unfold fs;split<;>omega
 ·have jX:s.E u=true:=hE
  have c:u≠t:=fun q=>by subst q;rw[he] at jX;simp at jX
  show fs s.N t (s.N t+1) u%2=0;rw[az c];exact ev u hu jX
 ·obtain⟨a1,a2⟩:=en u hu hE
  exact⟨rE a1,rE a2⟩
 ·obtain⟨a1,a2,a3,a4⟩:=wa u x hu hX
  exact⟨a1,a2,rE a3,rE a4⟩
 ·refine⟨fun a b c=>?_,fun u c=>⟨rR,rR⟩,rR,rR⟩
  exact⟨rR,rR⟩
theorem B5 {ns:Nat} (cq:0<ns∧ns≤64) {h:PT aj} {n:Nat} {d:Rl→Nat} {C:Rl→Option aj} {s:FS} {L:List Value} {t st:Nat} (S:St h n d C) (R:kI ns s L d C) (ht:t<ns) (h0:st≠0):
  b9 Tryz.prog OP 71 [pt (d (4,0)),I6 t,U6 st] h n fun r h' n'=>∃ d' C',r=dY [pt (d' (10,t)),I6 0]∧St h' n' d' C'∧kI ns ((jV ns).wait s t st) L d' C'∧Fr d C d' C' t:=by
 obtain⟨⟨k,M⟩,E,num,ev,en,wa⟩:=R
 have hlk:=M.len
 obtain⟨kk,r,h',n',e,p,q,q1,q2,q3,rfl,S'⟩:=LZ (t:=t) (base:=0) (th:=t) (set:=st) S E ⟨by omega,by omega⟩ (by omega)
 refine⟨kk,_,h',n',e,_,_,rR,S',⟨⟨k,(((M.dR (by omega)).dR (by omega)).kH (by omega)).kH (by omega)⟩,?_,num,ev,fun u hu hE=>?_,fun u x hu hX=>?_⟩,?_⟩
 ·obtain⟨e1,e2,e3,e4,e5,e6⟩:=E
  exact⟨rE e1,rE e2,rE e3,rE e4,e5,e6⟩
 ·obtain⟨a1,a2⟩:=en u hu hE
  exact⟨rE a1,rE a2⟩
 ·have B6:fs s.X t (some ⟨0,false,0,false⟩) u=some x:=hX
  by_cases c:u=t
  ·subst c
   rw[aA] at B6
   obtain rfl:=Option.some.inj B6
   exact⟨cq.1,rfl,rR,rT⟩
  ·rw[az c] at B6
   obtain⟨a1,a2,a3,a4⟩:=wa u x hu B6
   exact⟨a1,a2,rE a3,rE a4⟩
 ·refine⟨fun a b c=>?_,fun u c=>⟨rR,rR⟩,rR,rR⟩
  exact⟨rR,rR⟩
theorem IC {ns:Nat} {x:FW} {w:Int} (h:x.slot<ns) (he:(x.step ns w).ended=false):(x.step ns w).slot<ns:=by
 unfold FW.step FW.next at*
 split at he
 ·split at he
  ·rename_i c1 c2;rw[if_pos c1,if_pos c2];exact h
  ·rename_i c1 c2
   rw[if_pos c1,if_neg c2]
   simp only[decide_eq_false_iff_not] at he
   show x.slot+1<ns;omega
 ·split at he
  ·rename_i c1 c2
   rw[if_neg c1,if_pos c2]
   simp only[decide_eq_false_iff_not] at he
   show x.slot+1<ns;omega
  ·rename_i c1 c2;rw[if_neg c1,if_neg c2];exact h
theorem zq {ns:Nat} (cq:0<ns∧ns≤64) {h:PT aj} {n:Nat} {d:Rl→Nat} {C:Rl→Option aj} {s:FS} {L:List Value} {t:Nat} (S:St h n d C) (R:kI ns s L d C) (hL:L.length≤540000) (ht:t<ns) (hw:(s.X t).isSome=true):
  b9 Tryz.prog OP 59 [pt (d (10,t))] h n fun r h' n'=>∃ d' C',r=dY [U8 17,.bool !(jV ns).wt ((jV ns).aQ s t) t]∧St h' n' d' C'∧kI ns ((jV ns).aQ s t) (L++(xF ns).aW s t) d' C'∧Fr d C d' C' t∧d' (10,t)=d (10,t):=by
 obtain⟨⟨k,M⟩,E,num,ev,en,wa⟩:=R
 have hlk:=M.len
 obtain⟨x,hX⟩:=Option.isSome_iff_exists.1 hw
 obtain⟨a1,a2,a3,a4⟩:=wa t x ht hX
 have hnt:=num x.slot a1
 have ef:∀ f,(nl ns f).length=ns:=fun f=>aV
 obtain⟨kk,r,h',n',e,g,q1,q2,rfl,S'⟩:=Ig (t:=t) (ba:=x.slot) (base:=0) (th:=t) S E M (by omega) ⟨by omega,by omega⟩ (by omega) a1 (by omega) (by rw[ef];exact a1) (by rw[ef];omega) (cV _) ⟨by omega,by omega⟩ a2 a3 a4
 rw[i_ hX]
 have Y5:(xF ns).aW s t=bI t x.slot 1 (s.N x.slot) (s.N x.slot) false:=by show (match s.X t with |some x=>_ |none=>_)=_;rw[hX]
 rw[Y5]
 have hM:∀ C g L',L'.length=(k+1)*6→dP (upd d rL g) (bM C (d rW) g (nl ns s.N) L' (k+1)) (nl ns s.N) L' (k+1):=fun C g L' hL=>dP.next (k:=k) (C:=C) (L:=L) (W:=nl ns s.N) rfl hL
 refine⟨kk,_,h',n',e,_,_,?_,S',⟨⟨k+1,(hM _ _ _ (by rw[List.length_append,M.len];show _+6=_;omega)).dR (by omega)⟩,?_,fun i hi=>by rw[List.length_append];exact Nat.le_trans (num i hi) (Nat.le_add_right _ _),ev,fun u hu hE=>?_,fun u y hu hY=>?_⟩,?_,rR⟩
 ·show _=dY [_,.bool !((fs s.X t _ t).isSome)]
  rw[aA]
  cases (x.step ns (s.N x.slot)).ended<;>rfl
 ·obtain⟨e1,e2,e3,e4,e5,e6⟩:=E
  exact⟨rE e1,rE e2,rE e3,rE e4,e5,e6⟩
 ·obtain⟨a1,a2⟩:=en u hu hE
  exact⟨rE a1,rE a2⟩
 ·have zu:fs s.X t _ u=some y:=hY
  by_cases c:u=t
  ·subst c
   rw[aA] at zu
   cases he:(x.step ns (s.N x.slot)).ended with
   |true=>rw[he,if_pos rfl] at zu;simp at zu
   |false=>
    rw[he,if_neg (by simp)] at zu
    obtain rfl:=Option.some.inj zu
    exact⟨IC a1 he,he,rE a3,rR⟩
  ·rw[az c] at zu
   obtain⟨a1,a2,a3,a4⟩:=wa u y hu zu
   exact⟨a1,a2,rE a3,rE a4⟩
 ·refine⟨fun a b c=>?_,fun u c=>⟨rR,rR⟩,rR,rR⟩
  exact⟨rR,rR⟩
theorem B7 {ns:Nat} {d:Rl→Nat} {C:Rl→Option aj} {s:FS} {L:List Value} {a b:Nat} {B:Option aj} (R:kI ns s L d C) (ha:30≤a):kI ns s L d (upd C (a,b) B):=by
 obtain⟨⟨k,M⟩,⟨e1,e2,e3,e4,e5,e6⟩,num,ev,en,wa⟩:=R
 refine⟨⟨k,M.dR (by omega)⟩,⟨rE e1,rE e2,rE e3,rE e4,e5,e6⟩,num,ev,fun u hu hE=>?_,fun u x hu hX=>?_⟩
 ·obtain⟨a1,a2⟩:=en u hu hE
  exact⟨rE a1,rE a2⟩
 ·obtain⟨a1,a2,a3,a4⟩:=wa u x hu hX
  exact⟨a1,a2,rE a3,rE a4⟩
theorem B8 {ns:Nat} {d:Rl→Nat} {C:Rl→Option aj} {s:FS} {L:List Value} {a b i:Nat} (R:kI ns s L d C) (ha:30≤a):kI ns s L (upd d (a,b) i) C:=by
 obtain⟨⟨k,M⟩,⟨e1,e2,e3,e4,e5,e6⟩,num,ev,en,wa⟩:=R
 refine⟨⟨k,M.kH (by omega)⟩,⟨rE e1,rE e2,e3,e4,e5,e6⟩,num,ev,fun u hu hE=>?_,fun u x hu hX=>?_⟩
 ·obtain⟨a1,a2⟩:=en u hu hE
  exact⟨rE a1,rE a2⟩
 ·obtain⟨a1,a2,a3,a4⟩:=wa u x hu hX
  exact⟨a1,a2,rE a3,rE a4⟩
theorem RK {ns:Nat} (cq:0<ns∧ns≤64):gp (jV ns) (xF ns) ns (kI ns):=⟨fun S R hk ht hv he hi hw=>zn cq S R ht hv he hi,fun S R hk ht he hi=>zo cq S R hk ht he,fun S R hk ht hi he=>B4 cq S R hk ht hi he,fun S R hk ht h0 h1 hw=>B5 cq S R ht h0,fun S R hk ht hw=>zq cq S R hk ht hw,fun s t=>⟨⟨_,_,_,_,_,rfl⟩,by
  show jc t (match s.X t with |some x=>_ |none=>_)
  cases s.X t<;>exact⟨_,_,_,_,_,rfl⟩,⟨_,_,_,_,_,rfl⟩⟩,⟨fun _ _=>(by decide:(1:Int)<13∧(13:Int)<256),fun _ _=>(by decide:(1:Int)<17∧(17:Int)<256),(by decide:(1:Int)<13),(by decide:(13:Int)<256)⟩,fun R=>by
  obtain⟨k,M⟩:=R.mem
  exact⟨_,k,M,by rw[aV];omega⟩,B7,B8
 ⟩
end Go.Proofs.YtbceiadaihphaaaGreat
