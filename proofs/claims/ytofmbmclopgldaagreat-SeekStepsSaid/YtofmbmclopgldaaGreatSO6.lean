/-
A part.
-/
import Derived.Test.YtofmbmclopgldaaGreatSQ2
set_option linter.all false
set_option maxRecDepth 100000
set_option maxHeartbeats 32000000
namespace Go.Proofs.YtofmbmclopgldaaGreat
open Go.Am Go.Proofs.Tryz
section
variable {d:Rl→Nat} {C:Rl→Option aj} {h h1:PT aj} {n n1:Nat}
theorem aaD(S:St h n d C){W:List Int}{L:List Value}{k:Nat}(M:qz d C W L k){en a sl bu:Int}(LN:1≤en∧en≤3)(hsl:1≤sl∧sl≤64)(RZ:if en=3 then 1≤bu∧bu≤16 else bu=0)(ha:0≤a∧a+bH en sl bu≤W.length)(hw:W.length≤100000):
  cE prog OB 147 [pt (d qM),U8 en,I6 a,I6 sl,I6 bu] h n fun v h' n'=>(∃ p,v=iU [pt p,I6 0])∧Kept h h'∧bQ h' n'∧n≤n':=by
 obtain⟨wc,hm⟩:=M.mem;have km:=S.at hm;have hq:=S.lt hm;have Fu:=S.wf;unfold bH at ha;generalize d qM=q at*;obtain⟨j,hj⟩:∃ j:Nat,sl=(j:Int):=⟨sl.toNat,by omega⟩;subst hj;have h3:en=1∨en=2∨en=3:=by omega
 rcases h3 with rfl|rfl|rfl
 ·rw[if_neg qi] at RZ;rw[if_pos rfl] at ha;subst RZ;refine ay (N:=71) func147 rfl rfl fun z hP hO hro hN hQ=>?_
  repeat' first|simp(disch:=try exact yj) only[go_sem, *] | (apply xs<;>intro _)<;>try omega|refine fun (_ _:List Nat)=>?_ | (first|refine bD func211 rfl ?_ ?_ ?_ ?_ |refine bD func212 rfl ?_ ?_ ?_ ?_ |refine bD func242 rfl ?_ ?_ ?_ ?_ |refine bD func244 rfl ?_ ?_ ?_ ?_ |fail)<;>intros
  refine⟨⟨_,rfl⟩,?_,?_,by omega⟩
  ·repeat refine Kept.set' Fu qJ ?_
   exact Kept.refl _
  ·(repeat refine bQ.set' qJ ?_);first|assumption|exact bQ.mono (by assumption) qJ
 ·rw[if_neg qi] at RZ;rw[if_neg qi,if_pos rfl] at ha;subst RZ;refine ay (N:=71) func147 rfl rfl fun z hP hO hro hN hQ=>?_
  repeat' first|simp(disch:=try exact yj) only[go_sem, *] | (apply xs<;>intro _)<;>try omega|refine fun (_ _:List Nat)=>?_ | (first|refine bD func211 rfl ?_ ?_ ?_ ?_ |refine bD func213 rfl ?_ ?_ ?_ ?_ |refine bD func243 rfl ?_ ?_ ?_ ?_ |refine bD func244 rfl ?_ ?_ ?_ ?_ |fail)<;>intros
  refine⟨⟨_,rfl⟩,?_,?_,by omega⟩
  ·repeat refine Kept.set' Fu qJ ?_
   exact Kept.refl _
  ·(repeat refine bQ.set' qJ ?_);first|assumption|exact bQ.mono (by assumption) qJ
 ·rw[if_pos rfl] at RZ;rw[if_neg qi,if_neg qi,if_pos rfl] at ha;refine ay (N:=71) func147 rfl rfl fun z hP hO hro hN hQ=>?_
  repeat' first|simp(disch:=try exact yj) only[go_sem, *] | (apply xs<;>intro _)<;>try omega|refine fun (_ _:List Nat)=>?_ | (first|refine bD func211 rfl ?_ ?_ ?_ ?_ |refine bD func214 rfl ?_ ?_ ?_ ?_ |refine bD func241 rfl ?_ ?_ ?_ ?_ |refine bD func244 rfl ?_ ?_ ?_ ?_ |fail)<;>intros
  refine⟨⟨_,rfl⟩,?_,?_,by omega⟩
  ·repeat refine Kept.set' Fu qJ ?_
   exact Kept.refl _
  ·(repeat refine bQ.set' qJ ?_);first|assumption|exact bQ.mono (by assumption) qJ
end
end Go.Proofs.YtofmbmclopgldaaGreat
namespace Go.Proofs.YtofmbmclopgldaaGreat
open Go.Am Go.Proofs.Tryz
abbrev aho(v0 v1 v2 v3 v4 v5 v6 v7 v8 v9 v10 v11 UA WZ W_ Xa:Value)(q0 q1 q2 q3 q4:Int)(p5 p6:Nat)(q7 q8:Int)(sz:Nat)(hv wv:Value):List Value:=[v0,v1,v2,v3,v4,v5,v6,v7,v8,v9,v10,v11,UA,WZ,W_,Xa,.int .i64 q0,.int .i64 q1,.int .i64 q2,.int .i64 q3,.int .i64 q4,.int .i64 (p5:Int),.int .i64 (p6:Int),.int .i64 q7,.int .i64 q8,.int .i64 (sz:Int),hv,wv]
section
variable {d:Rl→Nat} {C:Rl→Option aj} {h:PT aj} {n:Nat}
theorem QT(S:St h n d C){b cap:Nat}{W:List Int}(hb:h.get b=row (W.map (.int .u64)))(h1:0<W.length)(h2:W.length≤65536):
  cE prog OB 143 [.slice (some ⟨b,0,none⟩) W.length cap] h n fun v h' n'=>∃ d' C',v=iU [pt (d' qM),I6 0]∧Nz n d C mB mB d' C' h' n'∧qz d' C' W [] 0:=by
 have h3: ¬ (W.length:Int)=0:=by omega
 have h4: ¬ (65536:Int)<W.length:=by omega
 have rQ:(W.map (Value.int .u64)).length=W.length:=List.length_map ..;have FH:=S.wf.lt hb;have hb0:W.length.beq 0=false:=by cases hl:W.length with
  |zero=>omega
  |succ m=>rfl
 have zn:W.length.ble 0=false:=by cases hl:W.length with
  |zero=>omega
  |succ m=>rfl
 have mT:W.length.ble 1048576=true:=Nat.ble_eq_true_of_le qJ;refine ay (N:=15) func143 rfl rfl fun z hP hO hro hN hQ=>?_
 repeat' first|simp(disch:=try exact yj) only[go_sem, *] | (apply xs<;>intro _)<;>try omega
 refine⟨_,_,by simp(disch:=first |decide|assumption|omega) only[rM,rW,rL,aq,au,aK,aL],⟨by omega,(((S.junk (Nat.le_refl _) (Nat.lt_succ_self _)).new qW _ (Nat.le_refl _) (Nat.lt_succ_self _)).new qM _ (Nat.le_refl _) (Nat.lt_succ_self _)),fun h1 n1 q F=>((F.new (a:=102) qi qJ _).new (a:=101) qi qJ _),fun r hr=>by
   simp only[List.mem_cons,List.not_mem_nil,or_false,not_or] at hr;rw[bB hr.1,bB hr.2.1],fun r hr=>by
   simp only[List.mem_cons,List.not_mem_nil,or_false,not_or] at hr;rw[bB hr.1,bB hr.2.1]⟩,⟨⟨aA+1,?_⟩,?_,.inl ⟨rfl,rfl⟩,rfl⟩⟩
 ·rw[aq,au qi,aq];rfl
 ·rw[au qi,aq]
variable {v0 v1 v2 v3 v4 v5 v6 v7 v8 v9 v10 v11 UA WZ W_ Xa:Value} {q0 q1 q2 q3 q4:Int} {p5 p6:Nat} {q7 q8:Int} {sz jX:Nat} {a:Option Addr} {H cap:Nat} {wv:Value}
theorem LD(S:St h n d C){W:List Int}{L:List Value}{k:Nat}(M:qz d C W L k)(hl:h.get jX=row (aho v0 v1 v2 v3 v4 v5 v6 v7 v8 v9 v10 v11 UA WZ W_ Xa q0 q1 q2 q3 q4 p5 p6 q7 q8 sz (.slice a H cap) wv))(hs:W.length=sz)(hH:H≤1024):
  cE prog OB 145 [pt (d qM),pt jX] h n fun v h' n'=>∃ d' C',v=iU [pt (d' (104,0)),I6 0]∧Nz n d C [(104,0),(105,0),(106,0),(107,0)] [(104,0),(105,0),(106,0),(107,0)] d' C' h' n'∧
   C' (104,0)=row [pt (d qM),pt jX,.slice (some ⟨d' (105,0),0,none⟩) (H+1) (H+1),.slice (some ⟨d' (106,0),0,none⟩) (H+1) (H+1),.slice (some ⟨d' (107,0),0,none⟩) (H+1) (H+1)]∧
   C' (105,0)=row (rep [.bool false] (H+1))∧C' (106,0)=row (rep [.bool false] (H+1))∧C' (107,0)=row (rep [I6 0] (H+1)):=by
 obtain⟨wc,hm⟩:=M.mem;have km:=S.at hm;have hq:=S.lt hm;have zR:=S.wf.lt hl;subst hs;have mS:(H+1).ble 1048576=true:=Nat.ble_eq_true_of_le qJ;have hHi:(H:Int)+1=((H+1:Nat):Int):=by omega
 obtain⟨q,Py⟩:∃ q,d qM=q:=⟨_,rfl⟩;rw[Py] at km hq ⊢;generalize H+1=H1 at*;refine ay (N:=40) func145 rfl rfl fun z hP hO hro hN hQ=>?_
 repeat' first|simp(disch:=try exact yj) only[go_sem, *] | (apply xs<;>intro _)<;>try omega | ((with_reducible refine b8 3 ?_);refine dw 40 3 afE (by first | (simp only[go_sem, *];done)|rfl) (by kernel_rfl) (by kernel_rfl) ?_) | ((with_reducible refine b8 6 ?_);refine dw 40 6 afI (by first | (simp only[go_sem, *];done)|rfl) (by kernel_rfl) (by kernel_rfl) ?_)
 refine⟨_,_,by simp(disch:=first |decide|assumption|omega) only[rM,rW,rL,aq,au,aK,aL],⟨by omega,((((S.new (105,0) _ (Nat.le_refl _) (Nat.lt_succ_self _)).new (106,0) _ (Nat.le_refl _) (Nat.lt_succ_self _)).new (107,0) _ (Nat.le_refl _) (Nat.lt_succ_self _)).new (104,0) _ (Nat.le_refl _) (Nat.lt_succ_self _)),fun h1 n1 q F=>(((F.new (a:=105) qi qJ _).new (a:=106) qi qJ _).new (a:=107) qi qJ _).new (a:=104) qi qJ _,fun r hr=>by
   simp only[List.mem_cons,List.not_mem_nil,or_false,not_or] at hr;rw[bB hr.1,bB hr.2.2.2,bB hr.2.2.1,bB hr.2.1],fun r hr=>by
   simp only[List.mem_cons,List.not_mem_nil,or_false,not_or] at hr;rw[bB hr.1,bB hr.2.2.2,bB hr.2.2.1,bB hr.2.1]⟩,by (simp(disch:=first |decide|assumption|omega) only[rM,rW,rL,aq,au,aK,aL])<;>rfl,by (simp(disch:=first |decide|assumption|omega) only[rM,rW,rL,aq,au,aK,aL])<;>rfl,by (simp(disch:=first |decide|assumption|omega) only[rM,rW,rL,aq,au,aK,aL])<;>rfl,by (simp(disch:=first |decide|assumption|omega) only[rM,rW,rL,aq,au,aK,aL])<;>rfl⟩
theorem QU(S:St h n d C){W:List Int}{L:List Value}{k:Nat}(M:qz d C W L k)(hl:h.get jX=row (aho v0 v1 v2 v3 v4 v5 v6 v7 v8 v9 v10 v11 UA WZ W_ Xa q0 q1 q2 q3 q4 p5 p6 q7 q8 sz (.slice a H cap) wv))(hs:W.length=sz):
  cE prog OB 146 [pt (d qM),pt jX] h n fun v h' n'=>∃ d' C',v=iU [pt (d' (108,0)),I6 0]∧Nz n d C [(108,0)] [(108,0)] d' C' h' n'∧C' (108,0)=row [pt (d qM),pt jX]:=by
 obtain⟨wc,hm⟩:=M.mem;have km:=S.at hm;have hq:=S.lt hm;have zR:=S.wf.lt hl;subst hs;obtain⟨q,Py⟩:∃ q,d qM=q:=⟨_,rfl⟩;rw[Py] at km hq ⊢;refine ay (N:=27) func146 rfl rfl fun z hP hO hro hN hQ=>?_
 repeat' first|simp(disch:=try exact yj) only[go_sem, *] | (apply xs<;>intro _)<;>try omega | ((with_reducible refine b8 3 ?_);refine dw 27 3 afJ (by first | (simp only[go_sem, *];done)|rfl) (by kernel_rfl) (by kernel_rfl) ?_)
 exact⟨_,_,by simp(disch:=first |decide|assumption|omega) only[rM,rW,rL,aq,au,aK,aL],Nz.new (t:=108) (b:=0) qi (Nat.le_refl _) (Nat.le_succ _) (S.new (108,0) _ (Nat.le_refl _) (Nat.lt_succ_self _)),aq⟩
end
end Go.Proofs.YtofmbmclopgldaaGreat
namespace Go.Proofs.YtofmbmclopgldaaGreat
open Go.Am Go.Proofs.Tryz
theorem CH(W:List (Int×Int×Int))(x:Int×Int×Int):jq W x=match ot W x 0 with
  |some i => .tuple ⟨[.int .i64 i,.int .i64 0]⟩
  |none => .tuple ⟨[.int .i64 0,.int .i64 3]⟩:=by
 unfold jq fI fE;cases ot W x 0<;>rfl
theorem kX:∀ (A B:List (Int×Int×Int)) (x:Int×Int×Int) (b:Int),ot (A++B) x b=(ot A x b).or (ot B x (b+A.length))
 | [],B,x,b=>by simp[ot]
 |y::A,B,x,b=>by
  rw[List.cons_append,ot,ot,kX A B x (b+1)];by_cases e:y=x
  ·simp[e]
  ·simp only[if_neg e,List.length_cons]
   congr 2
   omega
theorem kY:∀ (A:List (Int×Int×Int)) (x:Int×Int×Int) (b:Int),¬x∈A→ot A x b=none
 | [],_,_,_=>rfl
 |y::A,x,b,h=>by
  simp only[List.mem_cons,not_or] at h;rw[ot,if_neg (fun e=>h.1 e.symm),kY A x (b+1) h.2]
theorem QV:∀ (A:List (Int×Int×Int)) (x:Int×Int×Int) (b:Int) (i:Nat),A[i]? = some x→(∀ j,j<i→A[j]? ≠ some x)→ot A x b=some (b+i)
 | [],x,b,i,h,_=>by simp at h
 |y::A,x,b,0,h,_=>by
  simp at h;subst h;simp[ot]
 |y::A,x,b,i+1,h,hn=>by
  have h0:=hn 0 qJ;simp only[List.getElem?_cons_zero,ne_eq,Option.some.injEq] at h0;rw[ot,if_neg h0,QV A x (b+1) i (by simpa using h) fun j hj=>by have:=hn (j+1) qJ;simpa using this]
  congr 1;omega
theorem CJ{kind first:Int}{p n i:Nat}(hi:i<n):(iD kind first p n)[i]? = some (kind,first+((i/p:Nat):Int),((i%p:Nat):Int)):=by
 simp[iD,hi]
theorem ze{kind first a c b:Int}{p n u v:Nat}(hp:0<p)(ha:a=first+(u:Int))(hc:c=(v:Int))(hv:v<p)(hn:u*p+v<n):ot (iD kind first p n) (kind,a,c) b=some (b+((u*p+v:Nat):Int)):=by
 have e1:(u*p+v)/p=u:=by
  rw[Nat.add_comm,Nat.add_mul_div_right _ _ hp,Nat.div_eq_of_lt hv,Nat.zero_add]
 have e2:(u*p+v)%p=v:=by
  rw[Nat.add_comm,Nat.add_mul_mod_self_right,Nat.mod_eq_of_lt hv]
 refine QV _ _ _ _ ?_ fun j hj=>?_
 ·rw[CJ hn,e1,e2,ha,hc]
 ·rw[CJ qJ];intro e;simp only[Option.some.injEq,Prod.mk.injEq,true_and] at e;have h1:j/p=u:=by omega
  have h2:j%p=v:=by omega
  have:=Nat.div_add_mod j p;rw[h1,h2,Nat.mul_comm] at this;omega
theorem vq{kind first b k a c:Int}{p n:Nat}(h:∀ u v:Nat,v<p→u*p+v<n→ ¬(k=kind∧a=first+(u:Int)∧c=(v:Int)))(hp:0<p):ot (iD kind first p n) (k,a,c) b=none:=by
 refine kY _ _ _ fun hm=>?_;obtain⟨i,hi⟩:=List.getElem?_of_mem hm;have hin:i<n:=by
  have:=(List.getElem?_eq_some_iff.1 hi).1
  rwa [aH] at this
 rw[CJ hin] at hi;simp only[Option.some.injEq,Prod.mk.injEq] at hi;have hd:=Nat.div_add_mod i p;refine h (i/p) (i%p) (Nat.mod_lt _ hp) (by rw[Nat.mul_comm];omega) ⟨hi.1.symm,hi.2.1.symm,hi.2.2.symm⟩
theorem bV{kind first b k a c:Int}{p n:Nat}(h:k≠kind):ot (iD kind first p n) (k,a,c) b=none:=by
 refine kY _ _ _ fun hm=>?_;simp only[iD,List.mem_map,Prod.mk.injEq] at hm;obtain⟨i,_,hi,_⟩:=hm;exact h hi.symm
theorem pQ:∀ (H:List Int) (t:Int) (y:Int×Int×Int),y∈ej t H→y.1=9∧t≤y.2.1∧y.2.1<t+H.length
 | [],t,y,h=>by simp[ej] at h
 |x::r,t,y,h=>by
  rw[ej,List.mem_append] at h
  rcases h with h |h
  ·simp only[iD,List.mem_map,List.mem_range] at h;obtain⟨i,hi,rfl⟩:=h;rw[Nat.div_eq_of_lt hi];refine⟨rfl,by simp,?_⟩;simp only[List.length_cons];omega
  ·have:=pQ r (t+1) y h;simp only[List.length_cons];omega
theorem pR:∀ (H:List Int) (t b w:Int) (i:Nat),i<H.length→0≤w→w<5+H.getD i 0→(∀ j,j<H.length→1≤H.getD j 0)→ot (ej t H) (9,t+(i:Int),w) b=some ((tN b H).getD i 0+w)
 | [],t,b,w,i,hi,_,_,_=>by simp at hi
 |x::r,t,b,w,0,_,h0,h1,hb=>by
  simp only[List.getD_cons_zero] at h1;have hx:=hb 0 (by simp);simp only[List.getD_cons_zero] at hx;rw[ej,kX,ze (u:=0) (v:=w.toNat) qJ (by simp) qJ qJ qJ];simp only[tN,Option.some_or,List.getD_cons_zero,Option.some.injEq];omega
 |x::r,t,b,w,i+1,hi,h0,h1,hb=>by
  have hx:=hb 0 (by simp);simp only[List.getD_cons_zero] at hx;simp only[List.getD_cons_succ] at h1;have hr:=pR r (t+1) (b+(5+x)) w i (by simpa using hi) h0 h1 (fun j hj=>by have:=hb (j+1) (by simpa using hj);simpa using this);have e1:t+((i+1:Nat):Int)=t+1+(i:Int):=by omega
  have e2:ot (iD 9 t (5+x).toNat (5+x).toNat) (9,t+1+(i:Int),w) b=none:=by
   refine vq (fun u v hv hn=>?_) qJ;rintro ⟨_,ha,_⟩;have:u=i+1:=by omega
   subst this;have:(i+1)*(5+x).toNat≥(5+x).toNat:=Nat.le_mul_of_pos_left _ qJ;omega
  rw[ej,kX,e1,e2,aH,Option.none_or,show b+(((5+x).toNat:Nat):Int)=b+(5+x) by omega,hr];simp only[tN,List.getD_cons_succ]
theorem A5{sl en bu lo V t w:Int}{H:List Int}(h1:0≤sl)(h2:0≤bH en sl bu)(h3:0≤lo)(h4:0≤V):ot (cY sl en bu lo V H) (9,t,w) 0=ot (ej 1 H) (9,t,w) (cL sl en bu lo H+V*7):=by
 unfold cY;simp only[kX,bV (show (9:Int)≠1 by omega),bV (show (9:Int)≠2 by omega),bV (show (9:Int)≠3 by omega),bV (show (9:Int)≠4 by omega),bV (show (9:Int)≠5 by omega),bV (show (9:Int)≠6 by omega),bV (show (9:Int)≠7 by omega),bV (show (9:Int)≠8 by omega),Option.none_or,List.length_append,aH]
 congr 1
 unfold cL;omega
theorem LG{sl en bu lo V v c:Int}{H:List Int}(h1:0≤sl)(h2:0≤bH en sl bu)(h3:0≤lo)(h4:0≤V):ot (cY sl en bu lo V H) (8,v,c) 0=if (0≤v∧v<V)∧0≤c∧c<7 then some (cL sl en bu lo H+v*7+c) else none:=by
 have ht:ot (ej 1 H) (8,v,c)=fun _=>none:=by
  funext b
  exact kY _ _ _ fun hm=>absurd (pQ H 1 _ hm).1 (by simp)
 have e:ot (cY sl en bu lo V H) (8,v,c) 0=ot (iD 8 0 7 (V*7).toNat) (8,v,c) (cL sl en bu lo H):=by
  unfold cY;simp only[kX,ht,bV (show (8:Int)≠1 by omega),bV (show (8:Int)≠2 by omega),bV (show (8:Int)≠3 by omega),bV (show (8:Int)≠4 by omega),bV (show (8:Int)≠5 by omega),bV (show (8:Int)≠6 by omega),bV (show (8:Int)≠7 by omega),Option.none_or,Option.or_none,List.length_append,aH]
  congr 1
  unfold cL;omega
 rw[e];split
 ·rename_i hc;rw[ze (u:=v.toNat) (v:=c.toNat) qJ qJ qJ qJ qJ];simp only[Option.some.injEq];omega
 ·rename_i hc;refine vq (fun u w hw hn=>?_) qJ;rintro ⟨_,rfl,rfl⟩;exact hc ⟨⟨by omega,by omega⟩,by omega,by omega⟩
theorem HU:∀ (H:List Int) (a:Int) (i:Nat),i<H.length→(∀ j,j<H.length→1≤H.getD j 0∧H.getD j 0≤6)→a≤(tN a H).getD i 0∧(tN a H).getD i 0≤a+11*(i:Int)
 | [],a,i,hi,_=>by simp at hi
 |x::r,a,0,_,_=>by simp[tN]
 |x::r,a,i+1,hi,hb=>by
  have hx:=hb 0 (by simp);simp only[List.getD_cons_zero] at hx;have hr:=HU r (a+(5+x)) i (by simpa using hi) (fun j hj=>by have:=hb (j+1) (by simpa using hj);simpa using this);simp only[tN,List.getD_cons_succ];omega
theorem LH{l:dg}{sl en bu lo V t w:Int}{H:List Int}(h1:0≤sl)(h2:0≤bH en sl bu)(h3:0≤lo)(h4:0≤V)(hH:l.H=H)(hT:l.T=tN (cL sl en bu lo H+V*7) H)(hb:∀ j,j<H.length→1≤H.getD j 0∧H.getD j 0≤6)
  (hp:0≤cL sl en bu lo H+V*7∧cL sl en bu lo H+V*7≤100000) (hn:H.length≤100000):og l t w=yR (cY sl en bu lo V H) t w:=by
 unfold og Ht Hu yR;rw[hH,hT];by_cases hw:w<0∨4<w
 ·rw[if_pos hw,if_neg qJ,if_neg qJ]
 ·rw[if_neg hw];rw[CH];rw[A5 h1 h2 h3 h4];by_cases ht:1≤t∧t≤H.length
  ·have hi:(t-1).toNat<H.length:=by omega
   have e:t=1+(((t-1).toNat:Nat):Int):=by omega
   have ME:=hb _ hi;have hf:=pR H 1 (cL sl en bu lo H+V*7) w _ hi qJ qJ fun j hj=>(hb j hj).1;rw[←e] at hf;have hal:=HU H (cL sl en bu lo H+V*7) _ hi hb;rw[if_pos qJ,if_pos qJ,hf,wrap_i64 qJ qJ]
  ·rw[if_neg qJ,if_neg qJ,kY];intro hm;have:=pQ H 1 _ hm;simp only at this;omega
theorem A6:∀ (H:List Int) (t:Int) (y:Int×Int×Int),y∈ej t H→(∀ j,j<H.length→1≤H.getD j 0)→y.2.2<5+H.getD (y.2.1-t).toNat 0
 | [],t,y,h,_=>by simp[ej] at h
 |x::r,t,y,h,hb=>by
  have hx:=hb 0 (by simp);simp only[List.getD_cons_zero] at hx;rw[ej,List.mem_append] at h
  rcases h with h |h
  ·simp only[iD,List.mem_map,List.mem_range] at h;obtain⟨i,hi,rfl⟩:=h;rw[Nat.div_eq_of_lt hi,Nat.mod_eq_of_lt hi];simp only[Int.natCast_zero,Int.add_zero,Int.sub_self,Int.toNat_zero,List.getD_cons_zero];omega
  ·have h1:=pQ r (t+1) y h;have h2:=A6 r (t+1) y h fun j hj=>by have:=hb (j+1) (by simpa using hj);simpa using this
   have e:(y.2.1-t).toNat=(y.2.1-(t+1)).toNat+1:=by omega
   rw[e,List.getD_cons_succ];exact h2
theorem CK(H:List Int)(t b w:Int)(i:Nat)(hw:5+H.getD i 0≤w)(hb:∀ j,j<H.length→1≤H.getD j 0):ot (ej t H) (9,t+(i:Int),w) b=none:=by
 refine kY _ _ _ fun hm=>?_;have:=A6 H t _ hm hb;simp only[show t+(i:Int)-t=(i:Int) by omega,Int.toNat_natCast] at this;omega
theorem LI{l:dg}{sl en bu lo V r lv:Int}{H:List Int}(h1:0≤sl)(h2:0≤bH en sl bu)(h3:0≤lo)(h4:0≤V)(hH:l.H=H)(hT:l.T=tN (cL sl en bu lo H+V*7) H)(hV:l.V=V)(hP:l.P.getD 7 0=cL sl en bu lo H)(hb:∀ j,j<H.length→1≤H.getD j 0∧H.getD j 0≤6)
  (hp:0≤cL sl en bu lo H∧cL sl en bu lo H≤90000) (hV2:V≤100) (hn:H.length≤100000) (hr : -9223372036854775808≤r∧r≤9223372036854775807):j5 l r lv=sZ (cY sl en bu lo V H) r lv:=by
 have hd:∀ i,i<H.length→∀ q,q∈[H.getD i 0-1]→IntKind.i64.wrap q=q:=fun i hi q hq=>by
  have:=hb i hi;simp only[List.mem_singleton] at hq;subst hq;exact wrap_i64 qJ qJ
 by_cases hlv:lv<0∨6≤lv
 ·have c1: ¬ (gi l r∧(0≤lv∧lv≤5)):=fun h=>by have:=h.2;omega
  have c2: ¬ pI l r lv:=by
   rintro ⟨g1,g2⟩;rw[hH] at g1 g2;have:=hb (r-1).toNat qJ;rw[hd (r-1).toNat qJ _ (by simp)] at g2;omega
  unfold j5 rE sS sZ;rw[if_neg c1,if_neg c1,if_neg c2,if_neg c2,if_pos (.inl hlv)]
 ·by_cases h0:0<r
  ·have c1: ¬ (gi l r∧(0≤lv∧lv≤5)):=fun h=>by have:=h.1.1;omega
   unfold j5 rE sS sZ;have c3: ¬ ((lv<0∨6≤lv)∨r=0):=by omega
   rw[if_neg c1,if_neg c1,if_neg c3,if_pos h0];rw[CH];rw[A5 h1 h2 h3 h4];by_cases ht:1≤r∧r≤H.length
   ·have hi:(r-1).toNat<H.length:=by omega
    have e:r=1+(((r-1).toNat:Nat):Int):=by omega
    have ME:=hb _ hi;have hal:=HU H (cL sl en bu lo H+V*7) _ hi hb;have hw:=hd _ hi _ (List.mem_singleton_self _);by_cases hh:lv<H.getD (r-1).toNat 0
    ·have hf:=pR H 1 (cL sl en bu lo H+V*7) (5+lv) _ hi qJ qJ fun j hj=>(hb j hj).1;rw[←e] at hf;have c2:pI l r lv:=by
      unfold pI;rw[hH,hw];omega
     rw[if_pos c2,if_pos c2,hf,hT,wrap_i64 (x:=_+5) qJ qJ,wrap_i64 qJ qJ,Int.add_assoc]
    ·have c2: ¬ pI l r lv:=by
      unfold pI;rw[hH,hw];omega
     have hf:=CK H 1 (cL sl en bu lo H+V*7) (5+lv) (r-1).toNat qJ fun j hj=>(hb j hj).1;rw[←e] at hf;rw[if_neg c2,if_neg c2,hf]
   ·have c2: ¬ pI l r lv:=by
     unfold pI;rw[hH];omega
    rw[if_neg c2,if_neg c2,kY];intro hm;have:=pQ H 1 _ hm;simp only at this;omega
  ·have c2: ¬ pI l r lv:=by
    unfold pI;omega
   unfold j5 rE sS sZ;rw[if_neg c2,if_neg c2];by_cases h00:r=0
   ·have c1: ¬ (gi l r∧(0≤lv∧lv≤5)):=fun h=>by have:=h.1.1;omega
    rw[if_neg c1,if_neg c1,if_pos (.inr h00)]
   ·have hwr:IntKind.i64.wrap (-1-r) = -1-r:=wrap_i64 qJ qJ;rw[if_neg (by omega: ¬ ((lv<0∨6≤lv)∨r=0)),if_neg h0,hwr];rw[CH];rw[LG h1 h2 h3 h4];by_cases hin : -1-r<V
    ·have hih:gi l r:=⟨by omega,by rw[hwr,hV];exact hin⟩;have c1:gi l r∧(0≤lv∧lv≤5):=⟨hih,by omega⟩;have hc:(0 ≤ -1-r ∧ -1-r<V)∧(0:Int)≤1+lv∧1+lv<7:=by omega
     rw[if_pos c1,if_pos c1,if_pos hc];unfold yE;have hi:IntKind.i64.wrap ((-1-r)*7)=(-1-r)*7:=wrap_i64 qJ qJ;rw[hwr,hP,hi,wrap_i64 (x:=cL sl en bu lo H+(-1-r)*7) qJ qJ,wrap_i64 (x:=_+1) qJ qJ,wrap_i64 qJ qJ,Int.add_assoc (_+_) 1 lv]
    ·have c1: ¬ (gi l r∧(0≤lv∧lv≤5)):=fun h=>hin (by have:=h.1.2;rwa [hwr,hV] at this);have hc: ¬ ((0 ≤ -1-r ∧ -1-r<V)∧(0:Int)≤1+lv∧1+lv<7):=by omega
     rw[if_neg c1,if_neg c1,if_neg hc]
theorem vr:∀ (H:List Int) (t b:Int),(∀ j,j<H.length→1≤H.getD j 0)→b+((ej t H).length:Int)=cS b H
 | [],t,b,_=>by simp[ej,cS]
 |x::r,t,b,h=>by
  have hx:=h 0 (by simp);simp only[List.getD_cons_zero] at hx;have:=vr r (t+1) (b+(5+x)) fun j hj=>by have:=h (j+1) (by simpa using hj);simpa using this
  rw[ej,List.length_append,aH,cS,←this];omega
theorem Fg{sl en bu lo V:Int}{H:List Int}(h1:0≤sl)(h2:0≤bH en sl bu)(h3:0≤lo)(h4:0≤V)(hb:∀ i,i<H.length→1≤H.getD i 0):
  ((cY sl en bu lo V H).length:Int)=cS (cL sl en bu lo H+V*7) H:=by
 rw[←vr H 1 _ hb];unfold cY cL;simp only[List.length_append,aH];omega
def oq:Value→List Nat
 | .slice (some ⟨b,_,_⟩) _ _=>[b]
 | _=>[]
theorem pJ.hz{k:IntKind}{h:PT aj}{N:Nat}{s:Value}{xs:List Int}{l:List Nat}(H:pJ k h N s xs)(hl:∀ i∈oq s,i∈l):aN k (oo h l) s xs:=by
 rcases H with H | ⟨b,c,rfl,hb,e⟩
 ·exact .inl H
 ·refine pJ.cR (N:=N) (.inr ⟨b,c,rfl,hb,?_⟩);rw[gK,if_pos (hl b (List.mem_singleton_self b)),e]
theorem pJ.ge{k:IntKind}{h:PT aj}{N:Nat}{s:Value}{xs:List Int}(H:pJ k h N s xs):∀ i∈oq s,N≤i:=by
 rcases H with ⟨rfl,-⟩ | ⟨b,c,rfl,hb,e⟩
 ·simp[oq]
 ·simpa [oq] using hb
structure RfN(jX H:Nat)(W:List Int)(d:Rl→Nat)(C:Rl→Option aj):Prop where
 mem:qz d C W [] 0
 base:∃ pv vv,C qB=row [pt jX,pt (d qM),pt (d (104,0)),pt (d (108,0)),pv,I6 0,.bool false,.slice none 0 0,.slice none 0 0,vv,.slice (some ⟨d (109,0),0,none⟩) (H+1) (H+1),.slice (some ⟨d (110,0),0,none⟩) (H+1) (H+1)]
 pool:C (104,0)=row [pt (d qM),pt jX,.slice (some ⟨d (105,0),0,none⟩) (H+1) (H+1),.slice (some ⟨d (106,0),0,none⟩) (H+1) (H+1),.slice (some ⟨d (107,0),0,none⟩) (H+1) (H+1)]
 taken:C (105,0)=row (rep [.bool false] (H+1))
 Z8:C (106,0)=row (rep [.bool false] (H+1))
 Cn:C (107,0)=row (rep [I6 0] (H+1))
 vh:C (108,0)=row [pt (d qM),pt jX]
 links:C (109,0)=row (rep [I6 0] (H+1))
 Cg:C (110,0)=row (rep [I6 0] (H+1))
abbrev xR:List Rl:=[(100,0),(101,0),(102,0),(103,0),(104,0),(105,0),(106,0),(107,0),(108,0),(109,0),(110,0)]
theorem aaE{r:Rl}(h:r∈xR):100≤r.1∧r.1≤110:=by
 simp only[List.mem_cons,List.not_mem_nil,or_false] at h
 rcases h with rfl|rfl|rfl|rfl|rfl|rfl|rfl|rfl|rfl|rfl|rfl<;>simp
section
variable {d:Rl→Nat} {C:Rl→Option aj} {h h1:PT aj} {n n1:Nat}
theorem ahp(S:St h n d C){th sl en bu kd dn t0 t1 t2 t3 t4 t5 lo tr ba:Int}{s:Value}{xs:List Int}(hs:aN .u64 h s xs)(NC:fR xs=true)(ok:gq th sl en bu kd dn t0 t1 t2 t3 t4 t5 lo tr ba xs=true):
  cE prog OB 72 [.agg ⟨[I6 th,I6 sl,U8 en,I6 bu,U8 kd,I6 dn,s,I6 t0,I6 t1,I6 t2,I6 t3,I6 t4,I6 t5,I6 lo,I6 tr,I6 ba]⟩] h n fun v h' n'=>∃ (jX:Nat) (cv hv wv:Value) (hz:PT aj) (nz:Nat) (d':Rl→Nat) (C':Rl→Option aj),v=iU [pt (d' qB),I6 0]∧(n≤n'∧nz≤n')∧St h' n' d' C'∧(∀ h1 n1,n1≤n→Fz h1 n1 d C→Fz h1 n1 d' C')∧Fy hz nz d' C'∧
   (∀ r:Rl,r.1≠9998→(r.1<100∨119<r.1)→d' r=d r∧C' r=C r)∧hz.get jX=row ([I6 th,I6 sl,U8 en,I6 bu,U8 kd,I6 dn,cv,I6 t0,I6 t1,I6 t2,I6 t3,I6 t4,I6 t5,I6 lo,I6 tr,I6 ba]++(placesOf sl en bu lo (aC kd dn xs) (hts 1 [t0,t1,t2,t3,t4,t5])).map (.int .i64)++[hv,wv])∧
   aN .u64 hz cv xs∧aN .i64 hz hv (hts 1 [t0,t1,t2,t3,t4,t5])∧(Ll (pt jX)).look hz=some (cY sl en bu lo (aC kd dn xs) (hts 1 [t0,t1,t2,t3,t4,t5]))∧
   RfN jX (hts 1 [t0,t1,t2,t3,t4,t5]).length (jR (0+sl*1+1*bH en sl bu+1+lo*3+lo*1).toNat (0+sl*1+1*bH en sl bu+1+lo*3+lo*1+6).toNat (cY sl en bu lo (aC kd dn xs) (hts 1 [t0,t1,t2,t3,t4,t5])).length (hts 1 [t0,t1,t2,t3,t4,t5]) 0) d' C':=by
 obtain⟨sj,rfl⟩:∃ j:Nat,sl=(j:Int):=⟨sl.toNat,by have:=(cr ok).2.2.1;omega⟩;have mM:=cr ok;have RZ:=EC ok;have Ld:=yG ok;have hV:=ji mM.1;have Xd:=jQ ⟨mM.2.2.2.2.2.1,mM.2.2.2.2.2.2.1⟩;have hbd:∀ i,i<(hts 1 [t0,t1,t2,t3,t4,t5]).length→1≤(hts 1 [t0,t1,t2,t3,t4,t5]).getD i 0∧(hts 1 [t0,t1,t2,t3,t4,t5]).getD i 0≤6:=fun i hi=>by
  have:=mL [t0,t1,t2,t3,t4,t5] 1 1 6 qJ (by simp) ((hts 1 [t0,t1,t2,t3,t4,t5]).getD i 0) (by simp[List.getD,hi]);exact this
 have Xi:=gJ (en:=en) mM.2.2.1.1 mM.2.2.1.2 mM.2.2.2.1.1 mM.2.2.2.1.2;have rP:=Fg (V:=aC kd dn xs) (en:=en) (bu:=bu) (H:=hts 1 [t0,t1,t2,t3,t4,t5]) (show (0:Int)≤sj by omega) Xi.1 (show 0≤lo by omega) qJ fun i hi=>(hbd i hi).1;have LP:=jE (hts 1 [t0,t1,t2,t3,t4,t5]) (cL (sj:Int) en bu lo (hts 1 [t0,t1,t2,t3,t4,t5])+aC kd dn xs*7) hbd;obtain⟨d1,C1,N1,ahq,ahr⟩:∃ d1 C1,Nz n d C [(119,0)] [(119,0)] d1 C1 (h.set n (row [I6 th,I6 sj,U8 en,I6 bu,U8 kd,I6 dn,s,I6 t0,I6 t1,I6 t2,I6 t3,I6 t4,I6 t5,I6 lo,I6 tr,I6 ba])) (n+1)∧d1 (119,0)=n∧C1 (119,0)=row [I6 th,I6 sj,U8 en,I6 bu,U8 kd,I6 dn,s,I6 t0,I6 t1,I6 t2,I6 t3,I6 t4,I6 t5,I6 lo,I6 tr,I6 ba]:=
  ⟨_,_,Nz.new qi (Nat.le_refl _) (Nat.le_succ _) (S.new (119,0) _ (Nat.le_refl _) (Nat.lt_succ_self _)),aq,aq⟩
 have hs1:=hs.keep (S.wf.kept (b:=row [I6 th,I6 sj,U8 en,I6 bu,U8 kd,I6 dn,s,I6 t0,I6 t1,I6 t2,I6 t3,I6 t4,I6 t5,I6 lo,I6 tr,I6 ba]) (Nat.le_refl n));have Vw:=N1.st.at ahr;rw[ahq] at Vw;refine ay (N:=91) func72 rfl rfl fun z hP hO hro hN hQ=>?_
 repeat' first|simp(disch:=try exact yj) only[go_sem, *] | (apply xs<;>intro _)<;>try omega
 generalize h.set n _=h1 at*;refine jg ((ZD (O:=OB) rfl rfl rfl th sj en bu kd dn t0 t1 t2 t3 t4 t5 lo tr ba _ xs _ _ N1.st.wf hs1 NC).wf N1.st.wf) ?_;rintro v h2 n2 ⟨⟨c1,rfl,k2⟩ | ⟨c1,lb,cv,hv,wv,rfl,k2,hlb,hrow,AF,FC,hwb,hG⟩,hn2,Fx⟩
 ·rw[ok] at c1;simp at c1
 have ahs:=Ld;unfold cL at ahs;have aHu:12≤(cY (sj:Int) en bu lo (aC kd dn xs) (hts 1 [t0,t1,t2,t3,t4,t5])).length:=by omega
 have hWz:(cY (sj:Int) en bu lo (aC kd dn xs) (hts 1 [t0,t1,t2,t3,t4,t5])).length≤20000:=by omega
 rcases hG with ⟨-,hG,-⟩ | ⟨wb,rfl,gwb,asT⟩
 ·exfalso;have:=congrArg List.length hG;rw[jP] at this;simp at this;omega
 have asU:=hwb wb _ _ rfl;have kZ:(oo h2 (lb::wb::(oq cv++oq hv))).get lb=h2.get lb:=by rw[gK,if_pos (by simp)]
 have hzw:(oo h2 (lb::wb::(oq cv++oq hv))).get wb=h2.get wb:=by rw[gK,if_pos (by simp)]
 have hzc:=AF.hz (l:=lb::wb::(oq cv++oq hv)) (by simp;intro i hi;exact .inr (.inr (.inl hi)));have hzh:=FC.hz (l:=lb::wb::(oq cv++oq hv)) (by simp;intro i hi;exact .inr (.inr (.inr hi)));have zR:∀ i∈lb::wb::(oq cv++oq hv),n+1≤i:=fun i hi=>by
  simp only[List.mem_cons,List.mem_append] at hi
  rcases hi with rfl|rfl |hi |hi
  ·exact hlb
  ·exact asU
  ·exact AF.ge i hi
  ·exact FC.ge i hi
 obtain⟨d2,C2,S2,F2,hfz,fr2⟩:∃ d2 C2,St h2 n2 d2 C2∧Fy (oo h2 (lb::wb::(oq cv++oq hv))) n2 d2 C2∧(∀ h0 n0,n0≤n+1→Fz h0 n0 d1 C1→Fz h0 n0 d2 C2)∧∀ r:Rl,r.1≠9998→d2 r=d1 r∧C2 r=C1 r:=
  ⟨_,_,(N1.st.freeze k2 Fx _ zR).1,(N1.st.freeze k2 Fx _ zR).2.1,(N1.st.freeze k2 Fx _ zR).2.2,fun r hr=>⟨if_neg hr,if_neg hr⟩⟩
 rw[hrow] at kZ;rw[gwb] at hzw;generalize oo h2 (lb::wb::(oq cv++oq hv))=hz at*;have hlk:=ZU kZ rfl hzw qJ rfl;obtain⟨ha,hc,rfl,-⟩:=hzh.len;have XF:=(fr2 (119,0) qi).2.trans ahr;have XG:=(fr2 (119,0) qi).1.trans ahq;have XH:=S2.at XF;rw[XG] at XH;clear zR hwb asT Vw;generalize hW:cY (sj:Int) en bu lo (aC kd dn xs) (hts 1 [t0,t1,t2,t3,t4,t5])=Wt at*;have hq9:cS (cL (sj:Int) en bu lo (hts 1 [t0,t1,t2,t3,t4,t5])+aC kd dn xs*7) (hts 1 [t0,t1,t2,t3,t4,t5])=(Wt.length:Int):=rP.symm;unfold placesOf at hQ;rw[hq9] at hQ hrow kZ;have hq1:0≤(0+(sj:Int)*1)∧(0+(sj:Int)*1)+bH en sj bu≤Wt.length:=by
  unfold cL at LP hq9;omega
 obtain⟨p5,hp5⟩:∃ p5:Nat,0+(sj:Int)*1+1*bH en sj bu+1+lo*3+lo*1=(p5:Int):=⟨(0+(sj:Int)*1+1*bH en sj bu+1+lo*3+lo*1).toNat,by omega⟩;have hp6:(p5+6)+(hts 1 [t0,t1,t2,t3,t4,t5]).length≤Wt.length:=by
  unfold cL at LP hq9;omega
 rw[hp5,show (p5:Int)+6=((p5+6:Nat):Int) by omega] at hQ hrow kZ;rw[Int.toNat_natCast,Int.toNat_natCast] at hQ;have LN:=mM.2.1;have hsl:=mM.2.2.1;clear mM Ld rP LP hq9 hp5 ahs Xi hV ok c1;generalize 0+(sj:Int)*1+1*bH en sj bu+1+lo*3=q4 at hQ hrow kZ;generalize 0+(sj:Int)*1+1*bH en sj bu+1=q3 at hQ hrow kZ;generalize 0+(sj:Int)*1+1*bH en sj bu=q2 at hQ hrow kZ;generalize 0+(sj:Int)*1=q1 at hQ hrow kZ hq1;generalize cL (sj:Int) en bu lo (hts 1 [t0,t1,t2,t3,t4,t5])=q7 at hQ hrow kZ;generalize q7+aC kd dn xs*7=q8 at hQ hrow kZ;generalize hts 1 [t0,t1,t2,t3,t4,t5]=H at*;have UB:=Fx.lt hrow;have hHi:(H.length:Int)+1=((H.length+1:Nat):Int):=by omega
 have mS:(H.length+1).ble 1048576=true:=Nat.ble_eq_true_of_le qJ;generalize XI:H.length+1=H1 at hHi mS hQ
 repeat' first|simp(disch:=try exact yj) only[go_sem, *] | (apply xs<;>intro _)<;>try omega | ((with_reducible refine b8 4 ?_);refine dw 91 4 aoB (by first | (simp only[go_sem, *];done)|rfl) (by kernel_rfl) (by kernel_rfl) ?_)
 obtain⟨d3,C3,N3,asW,asX,asY,asZ⟩:∃ d3 C3,Nz n2 d2 C2 xR xR d3 C3 ((((h2.set n2 (some (.cells (PT.ofList .leaf 0 (rep [.int .i64 0] sj)) false))).set (n2+1) (some (.cells (PT.ofList .leaf 0 (rep [.int .i64 0] H1)) false))).set (n2+1+1) (some (.cells (PT.ofList .leaf 0 (rep [.int .i64 0] H1)) false))).set (n2+1+1+1) (some (.cells (PT.ofList .leaf 0 [pt lb,.pointer none,.pointer none,.pointer none,.pointer none,.int .i64 0,.bool false,.slice none 0 0,.slice none 0 0,.slice (some ⟨n2,0,none⟩) sj sj,.slice (some ⟨n2+1,0,none⟩) H1 H1,.slice (some ⟨n2+1+1,0,none⟩) H1 H1]) false))) (n2+1+1+1+1)∧d3 (100,0)=n2+1+1+1∧C3 (100,0)=row [pt lb,.pointer none,.pointer none,.pointer none,.pointer none,.int .i64 0,.bool false,.slice none 0 0,.slice none 0 0,.slice (some ⟨n2,0,none⟩) sj sj,.slice (some ⟨d3 (109,0),0,none⟩) H1 H1,.slice (some ⟨d3 (110,0),0,none⟩) H1 H1]∧C3 (109,0)=row (rep [.int .i64 0] H1)∧C3 (110,0)=row (rep [.int .i64 0] H1):=
  ⟨_,_,⟨by omega,(((S2.junk (Nat.le_refl _) (Nat.lt_succ_self _)).new (109,0) _ (Nat.le_refl _) (Nat.lt_succ_self _)).new (110,0) _ (Nat.le_refl _) (Nat.lt_succ_self _)).new (100,0) _ (Nat.le_refl _) (Nat.lt_succ_self _),fun h1 n1 q F=>((F.new (a:=109) qi qJ _).new (a:=110) qi qJ _).new (a:=100) qi qJ _,fun r hr=>by
   simp only[List.mem_cons,List.not_mem_nil,or_false,not_or] at hr;rw[bB hr.1,bB hr.2.2.2.2.2.2.2.2.2.2,bB hr.2.2.2.2.2.2.2.2.2.1],fun r hr=>by
   simp only[List.mem_cons,List.not_mem_nil,or_false,not_or] at hr;rw[bB hr.1,bB hr.2.2.2.2.2.2.2.2.2.2,bB hr.2.2.2.2.2.2.2.2.2.1]⟩,by simp(disch:=first |decide|assumption|omega) only[rM,rW,rL,aq,au,aK,aL],by (simp(disch:=first |decide|assumption|omega) only[rM,rW,rL,aq,au,aK,aL])<;>rfl,by (simp(disch:=first |decide|assumption|omega) only[rM,rW,rL,aq,au,aK,aL])<;>rfl,by (simp(disch:=first |decide|assumption|omega) only[rM,rW,rL,aq,au,aK,aL])<;>rfl⟩
 generalize (((h2.set n2 _).set _ _).set _ _).set _ _=h3 at*;have F3:=F2.of fun i=>⟨N3.dd (9998,i) (by simp),N3.cc (9998,i) (by simp)⟩;generalize n2+1+1+1+1=n3 at*;have hnB:n<n2+1+1+1:=by omega
 have hlB:lb<n2+1+1+1:=by omega
 generalize n2+1+1+1=B0 at*;have K3:=F3.kept N3.st;refine jg ((ZE (O:=OB) (hW:=N3.st.wf) (hb:=K3 _ _ kZ) (hH:=hzh.keep K3) (hbd:=hbd) (h6:=rfl) (hs:=hp6) (hz:=by omega)).wf N3.st.wf) ?_;rintro v h4 n4 ⟨⟨rfl,k4,rfl,gW⟩,hn4,hW4⟩;have rQ:=jS p5 (p5+6) Wt.length H 0;generalize hW0:jR p5 (p5+6) Wt.length H 0=W0 at*;have N4:Nz n3 d3 C3 xR xR d3 C3 h4 (n3+1):=Nz.keep N3.st k4 hW4 hn4;have mn:=QT N4.st (cap:=Wt.length) gW qJ qJ;rw[rQ] at mn;clear gW
 repeat' first|simp(disch:=try exact yj) only[go_sem, *] | (apply xs<;>intro _)<;>try omega
 refine jg (mn) ?_;rintro v h5 n5 ⟨d5,C5,rfl,N5,M5⟩;have NN5:=(N3.trans N4).trans (N5.sub (X':=xR) (Y':=xR) (by simp) (by simp));have QW:=(N5.dd (100,0) qi).trans asW;have QX:=(N5.cc (100,0) qi).trans asX;have HV:=N5.st.at QX;rw[QW] at HV;clear mn N4 k4 hW4 hn4 K3 F3 XH gwb
 repeat' first|simp(disch:=try exact yj) only[go_sem, *] | (apply xs<;>intro _)<;>try omega
 have S6:=N5.st.set (100,0) (.cells (PT.ofList .leaf 0 [pt lb,pt (d5 qM),.pointer none,.pointer none,.pointer none,.int .i64 0,.bool false,.slice none 0 0,.slice none 0 0,.slice (some ⟨n2,0,none⟩) sj sj,.slice (some ⟨d3 (109,0),0,none⟩) H1 H1,.slice (some ⟨d3 (110,0),0,none⟩) H1 H1]) false) QX QW;have N6:=NN5.trans (Nz.set (X:=xR) (Y:=xR) (t:=100) (b:=0) qi QX S6);have M6:=M5.of (d':=d5) (C':=upd C5 (100,0) (row [pt lb,pt (d5 qM),.pointer none,.pointer none,.pointer none,.int .i64 0,.bool false,.slice none 0 0,.slice none 0 0,.slice (some ⟨n2,0,none⟩) sj sj,.slice (some ⟨d3 (109,0),0,none⟩) H1 H1,.slice (some ⟨d3 (110,0),0,none⟩) H1 H1])) fun a h1 h2=>⟨rfl,au qJ⟩;have F6:=F2.of fun i=>⟨N6.dd (9998,i) (by simp),N6.cc (9998,i) (by simp)⟩;have pn:=LD N6.st M6 ((F6.kept N6.st) _ _ kZ) rQ qJ;rw[XI] at pn;generalize h5.set B0 _=h6 at*;refine jg (pn) ?_;rintro v h7 n7 ⟨d7,C7,rfl,N7,p1,p2,p3,p4⟩;have QY:=(N7.dd (100,0) qi).trans QW;have QZ:=(N7.cc (100,0) qi).trans aq;have HV:=N7.st.at QZ;rw[QY] at HV;clear pn S6
 repeat' first|simp(disch:=try exact yj) only[go_sem, *] | (apply xs<;>intro _)<;>try omega
 have NN7:=N6.trans (N7.sub (X':=xR) (Y':=xR) (by simp) (by simp));have S8:=N7.st.set (100,0) (.cells (PT.ofList .leaf 0 [pt lb,pt (d5 qM),pt (d7 (104,0)),.pointer none,.pointer none,.int .i64 0,.bool false,.slice none 0 0,.slice none 0 0,.slice (some ⟨n2,0,none⟩) sj sj,.slice (some ⟨d3 (109,0),0,none⟩) H1 H1,.slice (some ⟨d3 (110,0),0,none⟩) H1 H1]) false) QZ QY;have N8:=NN7.trans (Nz.set (X:=xR) (Y:=xR) (t:=100) (b:=0) qi QZ S8);have M8:=M6.of (d':=d7) (C':=upd C7 (100,0) (row [pt lb,pt (d5 qM),pt (d7 (104,0)),.pointer none,.pointer none,.int .i64 0,.bool false,.slice none 0 0,.slice none 0 0,.slice (some ⟨n2,0,none⟩) sj sj,.slice (some ⟨d3 (109,0),0,none⟩) H1 H1,.slice (some ⟨d3 (110,0),0,none⟩) H1 H1])) fun a h1 h2=>⟨N7.dd _ (by simp;omega),(au qJ).trans (N7.cc _ (by simp;omega))⟩;have F8:=F2.of fun i=>⟨N8.dd (9998,i) (by simp),N8.cc (9998,i) (by simp)⟩;have tn:=QU N8.st M8 ((F8.kept N8.st) _ _ kZ) rQ;have dM7:d7 qM=d5 qM:=N7.dd qM qi;rw[dM7] at tn;generalize h7.set B0 _=h8 at*;refine jg (tn) ?_;rintro v h9 n9 ⟨d9,C9,rfl,N9,t1⟩;have Fh:=(N9.dd (100,0) qi).trans QY;have Q_:=(N9.cc (100,0) qi).trans aq;have HV:=N9.st.at Q_;rw[Fh] at HV;have XJ:=N8.trans (N9.sub (X':=xR) (Y':=xR) (by simp) (by simp));have F9:=F2.of fun i=>⟨XJ.dd (9998,i) (by simp),XJ.cc (9998,i) (by simp)⟩;have Vw:=XJ.st.at ((XJ.cc (119,0) qi).trans XF);rw[(XJ.dd (119,0) qi).trans XG] at Vw;have aHx:=(F9.kept XJ.st) _ _ kZ;clear tn S8;have S10:=XJ.st.set (100,0) (.cells (PT.ofList .leaf 0 [pt lb,pt (d5 qM),pt (d7 (104,0)),pt (d9 (108,0)),.pointer none,.int .i64 0,.bool false,.slice none 0 0,.slice none 0 0,.slice (some ⟨n2,0,none⟩) sj sj,.slice (some ⟨d3 (109,0),0,none⟩) H1 H1,.slice (some ⟨d3 (110,0),0,none⟩) H1 H1]) false) Q_ Fh;have N10:=XJ.trans (Nz.set (X:=xR) (Y:=xR) (t:=100) (b:=0) qi Q_ S10);have M10:=M8.of (d':=d9) (C':=upd C9 (100,0) (row [pt lb,pt (d5 qM),pt (d7 (104,0)),pt (d9 (108,0)),.pointer none,.int .i64 0,.bool false,.slice none 0 0,.slice none 0 0,.slice (some ⟨n2,0,none⟩) sj sj,.slice (some ⟨d3 (109,0),0,none⟩) H1 H1,.slice (some ⟨d3 (110,0),0,none⟩) H1 H1])) fun a h1 h2=>⟨N9.dd _ (by simp;omega),(au qJ).trans (N9.cc _ (by simp;omega))⟩;have rp:=(aaD N10.st M10 LN hsl RZ (a:=q1) (by rw[rQ];exact hq1) qJ).wf N10.st.wf;have dM9:d9 qM=d5 qM:=(N9.dd qM qi).trans dM7;rw[dM9] at rp
 repeat' first|simp(disch:=try exact yj) only[go_sem, *] | (apply xs<;>intro _)<;>try omega | ((with_reducible refine b8 8 ?_);refine dw 91 8 aoC (by first | (simp only[go_sem, *];done)|rfl) (by kernel_rfl) (by kernel_rfl) ?_)
 refine jg (rp) ?_;rintro v h11 n11 ⟨⟨⟨pp,rfl⟩,k11,w11,l11⟩,-,-⟩;intro rd wr;have Vx:Nz n9 d9 _ xR xR d9 _ h11 n11:=Nz.keep N10.st k11 w11 l11;have Ra:upd C9 (100,0) (row [pt lb,pt (d5 qM),pt (d7 (104,0)),pt (d9 (108,0)),.pointer none,.int .i64 0,.bool false,.slice none 0 0,.slice none 0 0,.slice (some ⟨n2,0,none⟩) sj sj,.slice (some ⟨d3 (109,0),0,none⟩) H1 H1,.slice (some ⟨d3 (110,0),0,none⟩) H1 H1]) (100,0)=_:=aq;have HV:=Vx.st.at Ra;rw[Fh] at HV;clear rp
 repeat' first|simp(disch:=try exact yj) only[go_sem, *] | (apply xs<;>intro _)<;>try omega
 have S12:=Vx.st.set (100,0) (.cells (PT.ofList .leaf 0 [pt lb,pt (d5 qM),pt (d7 (104,0)),pt (d9 (108,0)),pt pp,.int .i64 0,.bool false,.slice none 0 0,.slice none 0 0,.slice (some ⟨n2,0,none⟩) sj sj,.slice (some ⟨d3 (109,0),0,none⟩) H1 H1,.slice (some ⟨d3 (110,0),0,none⟩) H1 H1]) false) Ra Fh;have Vy:=(N10.trans Vx).trans (Nz.set (X:=xR) (Y:=xR) (t:=100) (b:=0) qi Ra S12);have as0:d9 (109,0)=d3 (109,0):=(N9.dd _ qi).trans ((N7.dd _ qi).trans (N5.dd _ qi));have as1:d9 (110,0)=d3 (110,0):=(N9.dd _ qi).trans ((N7.dd _ qi).trans (N5.dd _ qi));have as2:d9 (104,0)=d7 (104,0):=N9.dd _ qi;have as3:d9 (105,0)=d7 (105,0):=N9.dd _ qi;have as4:d9 (106,0)=d7 (106,0):=N9.dd _ qi;have as5:d9 (107,0)=d7 (107,0):=N9.dd _ qi;have as6:C9 (109,0)=C3 (109,0):=(N9.cc (109,0) qi).trans ((au qi).trans ((N7.cc (109,0) qi).trans ((au qi).trans (N5.cc (109,0) qi))));have as7:C9 (110,0)=C3 (110,0):=(N9.cc (110,0) qi).trans ((au qi).trans ((N7.cc (110,0) qi).trans ((au qi).trans (N5.cc (110,0) qi))));have w7:∀ a,a=104∨a=105∨a=106∨a=107→C9 (a,0)=C7 (a,0):=fun a ha=>by
  rcases ha with rfl|rfl|rfl|rfl
  all_goals exact(N9.cc _ qi).trans (au qi)
 have l12:=Vy.le;refine⟨lb,cv,_,_,hz,n2,d9,_,by rw[Fh],⟨by omega,by omega⟩,Vy.st,fun h0 n0 q F=>Vy.fz h0 n0 qJ (hfz h0 n0 qJ (N1.fz h0 n0 q F)),F2.of (fun i=>⟨Vy.dd (9998,i) (by simp),Vy.cc (9998,i) (by simp)⟩),fun r r1 r2=>?_,kZ,hzc,hzh,hlk,?_⟩
 ·have hx:r∉xR:=fun q=>by have:=aaE q;omega
  have hy:r∉[((119:Nat),(0:Nat))]:=fun q=>by
   have:=List.mem_singleton.1 q;subst this;simp at r2
  exact⟨(Vy.dd r hx).trans ((fr2 r r1).1.trans (N1.dd r hy)),(Vy.cc r hx).trans ((fr2 r r1).2.trans (N1.cc r hy))⟩
 ·refine⟨M10.of fun a h1 h2=>⟨rfl,au qJ⟩,⟨pt pp,.slice (some ⟨n2,0,none⟩) sj sj,?_⟩,?_,?_,?_,?_,?_,?_,?_⟩
  ·rw[XI,aq,dM9,as2,as0,as1]
  ·rw[XI,au qi,au qi,w7 104 qJ,p1,dM9,as3,as4,as5]
  ·rw[XI,au qi,au qi,w7 105 qJ,p2]
  ·rw[XI,au qi,au qi,w7 106 qJ,p3]
  ·rw[XI,au qi,au qi,w7 107 qJ,p4]
  ·rw[au qi,au qi,t1,dM9]
  ·rw[XI,au qi,au qi,as6,asY]
  ·rw[XI,au qi,au qi,as7,asZ]
end
end Go.Proofs.YtofmbmclopgldaaGreat
