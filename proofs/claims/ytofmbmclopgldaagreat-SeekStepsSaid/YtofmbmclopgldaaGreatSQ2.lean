/-
A part.
-/
import Derived.Test.YtofmbmclopgldaaGreatSP1
import Derived.Test.YtofmbmclopgldaaGreatDQ
set_option linter.all false
set_option maxRecDepth 100000
set_option maxHeartbeats 8000000
namespace Go.Proofs.YtofmbmclopgldaaGreat
open Go.Am
structure Ev where
 h1:PT aj
 n1:Nat
 hz:PT aj
 nz:Nat
 lb:Nat
 jX:Nat
 l:dg
 V:Int
 sz:Nat
 p5:Nat
 p6:Nat
 kd:Int
 dn:Int
 xs:List Int
 cv:Value
 hv:Value
 S2:List Value
 Wt:List (Int×Int×Int)
structure tF(E:Ev):Prop where
 look:(zK (pt E.lb)).look E.h1=some E.l
 num:qy E.l E.V E.sz
 e5:E.l.P.getD 5 0=E.p5
 e6:E.l.P.getD 6 0=E.p6
 hp:E.p6≤60000
 aru:∃ a b c e f1 f2 f3 f4 f5 f6 g1 g2 g3 cv rest,E.l.S=[I6 a,I6 b,U8 c,I6 e,U8 E.kd,I6 E.dn,cv,I6 f1,I6 f2,I6 f3,I6 f4,I6 f5,I6 f6,I6 g1,I6 g2,I6 g3]++rest∧aN .u64 E.h1 cv E.xs
 nX:E.hz.get E.jX=row E.S2
 s2:∃ a b c e f1 f2 f3 f4 f5 f6 g1 g2 g3 wv,E.S2=[I6 a,I6 b,U8 c,I6 e,U8 E.kd,I6 E.dn,E.cv,I6 f1,I6 f2,I6 f3,I6 f4,I6 f5,I6 f6,I6 g1,I6 g2,I6 g3]++E.l.P.map (.int .i64)++[E.hv,wv]
 vo:(Ll (pt E.jX)).look E.hz=some E.Wt
 wl:E.Wt.length=E.sz
 nx:∀ r lv,-9223372036854775808≤r→r≤9223372036854775807→j5 E.l r lv=sZ E.Wt r lv
 wd:∀ t w,og E.l t w=yR E.Wt t w
 hts:aN .i64 E.hz E.hv E.l.H
 Cg:aN .u64 E.hz E.cv E.xs
 dom:cq E.kd E.dn E.xs=true
 cnt:E.V=aC E.kd E.dn E.xs
 pos:∀ x∈E.xs,0≤x∧x<18446744073709551616
 dnr : -9223372036854775808≤E.dn∧E.dn≤9223372036854775807
abbrev qB:Rl:=(100,0)
def Pg(E:Ev)(W:List Int)(L:List Value)(k:Nat)(K:List Int)(d:Rl→Nat)(C:Rl→Option aj):Prop:=
 ∃ stk tag X xk R rk,jm d C W L k∧L_ d C E.lb E.l (.slice none 0 0) (.slice none 0 0) R rk X xk (List.replicate E.l.H.length 0)∧Xg E.p5 E.p6 E.l.H.length E.l.H W stk tag∧Ri E.l.H.length E.l.H stk X xk (List.replicate E.l.H.length 0) R K 0∧∀ j,j<6→tag j≤k
def EM(K:List Int):List Int:=K.map fun k=>if k=2∨k=3 then 1 else 0
def Lt(K:List Int):List Int:=K.map fun k=>if k=3 then 1 else 0
def CT(K:List Int):List Bool:=K.map fun k=>decide (k≠0)
structure Rf(E:Ev)(W:List Int)(L:List Value)(k:Nat)(K:List Int)(d:Rl→Nat)(C:Rl→Option aj):Prop where
 mem:qz d C W L k
 base:∃ pv vv,C qB=row [pt E.jX,pt (d qM),pt (d (104,0)),pt (d (108,0)),pv,I6 0,.bool false,.slice none 0 0,.slice none 0 0,vv,.slice (some ⟨d (109,0),0,none⟩) K.length K.length,.slice (some ⟨d (110,0),0,none⟩) K.length K.length]
 pool:C (104,0)=row [pt (d qM),pt E.jX,.slice (some ⟨d (105,0),0,none⟩) K.length K.length,.slice (some ⟨d (106,0),0,none⟩) K.length K.length,.slice (some ⟨d (107,0),0,none⟩) K.length K.length]
 taken:C (105,0)=row ((CT K).map .bool)
 Z8:C (106,0)=row ((List.replicate K.length false).map .bool)
 Cn:C (107,0)=row ((List.replicate K.length (0:Int)).map (.int .i64))
 vh:C (108,0)=row [pt (d qM),pt E.jX]
 links:C (109,0)=row ((EM K).map (.int .i64))
 Cg:C (110,0)=row ((Lt K).map (.int .i64))
 len:K.length=E.l.H.length+1
abbrev sA:List Nat:=[0,1,2,4,70,71,72,73,74,75,76,77,78]
abbrev sB:List Nat:=[100,101,102,103,104,105,106,107,108,109,110]
section
variable {E:Ev} {W:List Int} {L:List Value} {k:Nat} {K:List Int} {d d':Rl→Nat} {C C':Rl→Option aj}
theorem Rf.of(M:Rf E W L k K d C)(fr:∀ a,100≤a→a≤110→d' (a,0)=d (a,0)∧C' (a,0)=C (a,0)):Rf E W L k K d' C':=by
 obtain⟨m0,⟨pv,vv,m1⟩,m2,m3,m4,m5,m6,m7,m8,m9⟩:=M;have f:=fun a h1 h2=>fr a h1 h2;refine⟨m0.of fun a h1 h2=>fr a qJ qJ,⟨pv,vv,?_⟩,?_,?_,?_,?_,?_,?_,?_,m9⟩
 ·rw[(f 100 qJ qJ).2,m1,(f 101 qJ qJ).1,(f 104 qJ qJ).1,(f 108 qJ qJ).1,(f 109 qJ qJ).1,(f 110 qJ qJ).1]
 ·rw[(f 104 qJ qJ).2,m2,(f 101 qJ qJ).1,(f 105 qJ qJ).1,(f 106 qJ qJ).1,(f 107 qJ qJ).1]
 ·rw[(f 105 qJ qJ).2,m3]
 ·rw[(f 106 qJ qJ).2,m4]
 ·rw[(f 107 qJ qJ).2,m5]
 ·rw[(f 108 qJ qJ).2,m6,(f 101 qJ qJ).1]
 ·rw[(f 109 qJ qJ).2,m7]
 ·rw[(f 110 qJ qJ).2,m8]
theorem L_.of2{lb:Nat}{l:dg}{mk ev:Value}{R:List cK}{rk:Nat}{X:List cK}{xk:Nat}{G:List Int}(B:L_ d C lb l mk ev R rk X xk G)(fr:∀ a,a∈sA→d' (a,0)=d (a,0)∧C' (a,0)=C (a,0)):L_ d' C' lb l mk ev R rk X xk G:=by
 obtain⟨b1,b2,b3,b4,b5,b6,⟨v,b7⟩⟩:=B;have f:=fr;refine⟨?_,?_,?_,?_,?_,?_,⟨v,?_⟩⟩
 ·rw[(f 70 (by simp)).2,b1,(f 0 (by simp)).1,(f 75 (by simp)).1,(f 78 (by simp)).1,(f 4 (by simp)).1,(f 73 (by simp)).1,(f 74 (by simp)).1]
 ·rw[(f 74 (by simp)).2];exact b2
 ·rw[(f 75 (by simp)).2,b3,(f 0 (by simp)).1,(f 76 (by simp)).1,(f 77 (by simp)).1]
 ·rw[(f 76 (by simp)).2];exact b4
 ·rw[(f 77 (by simp)).2];exact b5
 ·rw[(f 78 (by simp)).2,b6,(f 0 (by simp)).1]
 ·rw[(f 73 (by simp)).2];exact b7
theorem Pg.of(P:Pg E W L k K d C)(fr:∀ a,a∈sA→d' (a,0)=d (a,0)∧C' (a,0)=C (a,0)):Pg E W L k K d' C':=by
 obtain⟨stk,tag,X,xk,R,rk,M,B,Pk,I,ht⟩:=P;exact⟨stk,tag,X,xk,R,rk,M.of fun a ha=>fr a (by rcases(show a=0∨a=1∨a=2 by omega) with rfl|rfl|rfl<;>simp),B.of2 fr,Pk,I,ht⟩
end
theorem L_.vp{d d':Rl→Nat}{C C':Rl→Option aj}{lb:Nat}{l:dg}{mk ev:Value}{R:List cK}{rk:Nat}{X:List cK}{xk:Nat}{G:List Int}(B:L_ d C lb l mk ev R rk X xk G)(hM:d' rM=d rM)(fr:∀ a,a=4∨(70≤a∧a≤78)→d' (a,0)=d (a,0)∧C' (a,0)=C (a,0)):L_ d' C' lb l mk ev R rk X xk G:=by
 obtain⟨b1,b2,b3,b4,b5,b6,b7⟩:=B;refine⟨?_,?_,?_,?_,?_,?_,?_⟩
 ·rw[(fr 70 qJ).2,b1,hM,(fr 75 qJ).1,(fr 78 qJ).1,(fr 4 qJ).1,(fr 73 qJ).1,(fr 74 qJ).1]
 ·rw[(fr 74 qJ).2];exact b2
 ·rw[(fr 75 qJ).2,b3,hM,(fr 76 qJ).1,(fr 77 qJ).1]
 ·rw[(fr 76 qJ).2];exact b4
 ·rw[(fr 77 qJ).2];exact b5
 ·rw[(fr 78 qJ).2,b6,hM]
 ·obtain⟨v,hv⟩:=b7;exact⟨v,by rw[(fr 73 qJ).2];exact hv⟩
structure Sd where
 W:List Int
 L:List Value
 k:Nat
 K:List Int
structure Tw(E:Ev)(a b:Sd)(d:Rl→Nat)(C:Rl→Option aj)(h:PT aj)(n:Nat):Prop where
 ok:tF E
 le:E.n1≤n
 lz:E.nz≤n
 st:St h n d C
 fz:Fz E.h1 E.n1 d C
 fy:Fy E.hz E.nz d C
 pg:Pg E a.W a.L a.k a.K d C
 rf:Rf E b.W b.L b.k b.K d C
 ua:∀ x∈a.W,0≤x∧x<18446744073709551616
 ub:∀ x∈b.W,0≤x∧x<18446744073709551616
 la:a.W.length=E.sz
 lb:b.W.length=E.sz
structure Wo(d:Rl→Nat)(C:Rl→Option aj)(d':Rl→Nat)(C':Rl→Option aj):Prop where
 a:d' (70,0)=d (70,0)
 b:d' qB=d qB
 own:∀ r,200≤r.1→r.1≤9000→d' r=d r∧C' r=C r
theorem Wo.trans{d d' d2:Rl→Nat}{C C' C2:Rl→Option aj}(p:Wo d C d' C')(q:Wo d' C' d2 C2):Wo d C d2 C2:=⟨q.a.trans p.a,q.b.trans p.b,fun r h1 h2=>⟨(q.own r h1 h2).1.trans (p.own r h1 h2).1,(q.own r h1 h2).2.trans (p.own r h1 h2).2⟩⟩
abbrev two(d:Rl→Nat):Value := .agg ⟨[pt (d (70,0)),pt (d qB)]⟩
section
variable {E:Ev} {a b a' b':Sd} {d d':Rl→Nat} {C C':Rl→Option aj} {h h':PT aj} {n n':Nat} {X Y:List Rl}
theorem Tw.own(T:Tw E a b d C h n)(N:Nz n d C X Y d' C' h' n')(hX:∀ r∈X,(r.1∉sA∧r.1∉sB)∧r.1≠9998)(hY:∀ r∈Y,(r.1∉sA∧r.1∉sB)∧r.1≠9998):Tw E a b d' C' h' n':=by
 obtain⟨t0,t1,t1',t2,t3,t4,t5,t6,t7,t8,t9,t10⟩:=T;have l:=N.le;refine⟨t0,by omega,by omega,N.st,N.fz _ _ t1 t3,t4.of fun i=>⟨N.dd _ fun q=>(hY _ q).2 rfl,N.cc _ fun q=>(hX _ q).2 rfl⟩,t5.of fun i hi=>⟨N.dd _ fun q=>(hY _ q).1.1 hi,N.cc _ fun q=>(hX _ q).1.1 hi⟩,t6.of fun i h1 h2=>?_,t7,t8,t9,t10⟩;have hi:i∈sB:=by
  have:i=100∨i=101∨i=102∨i=103∨i=104∨i=105∨i=106∨i=107∨i=108∨i=109∨i=110:=by omega
  rcases this with rfl|rfl|rfl|rfl|rfl|rfl|rfl|rfl|rfl|rfl|rfl<;>simp
 exact⟨N.dd _ fun q=>(hY _ q).1.2 hi,N.cc _ fun q=>(hX _ q).1.2 hi⟩
theorem Tw.ZK(T:Tw E a b d C h n)(N:Nz n d C X Y d' C' h' n')(hX:∀ r∈X,r.1∉sB∧r.1≠9998)(hY:∀ r∈Y,r.1∉sB∧r.1≠9998)(P:Pg E a'.W a'.L a'.k a'.K d' C')(hu:∀ x∈a'.W,0≤x∧x<18446744073709551616)(hl:a'.W.length=E.sz):Tw E a' b d' C' h' n':=by
 obtain⟨t0,t1,t1',t2,t3,t4,t5,t6,t7,t8,t9,t10⟩:=T;have l:=N.le;refine⟨t0,by omega,by omega,N.st,N.fz _ _ t1 t3,t4.of fun i=>⟨N.dd _ fun q=>(hY _ q).2 rfl,N.cc _ fun q=>(hX _ q).2 rfl⟩,P,t6.of fun i h1 h2=>?_,hu,t8,hl,t10⟩;have hi:i∈sB:=by
  have:i=100∨i=101∨i=102∨i=103∨i=104∨i=105∨i=106∨i=107∨i=108∨i=109∨i=110:=by omega
  rcases this with rfl|rfl|rfl|rfl|rfl|rfl|rfl|rfl|rfl|rfl|rfl<;>simp
 exact⟨N.dd _ fun q=>(hY _ q).1 hi,N.cc _ fun q=>(hX _ q).1 hi⟩
theorem Tw.atB(T:Tw E a b d C h n)(N:Nz n d C X Y d' C' h' n')(hX:∀ r∈X,r.1∉sA∧r.1≠9998)(hY:∀ r∈Y,r.1∉sA∧r.1≠9998)(R:Rf E b'.W b'.L b'.k b'.K d' C')(hu:∀ x∈b'.W,0≤x∧x<18446744073709551616)(hl:b'.W.length=E.sz):Tw E a b' d' C' h' n':=by
 obtain⟨t0,t1,t1',t2,t3,t4,t5,t6,t7,t8,t9,t10⟩:=T;have l:=N.le;exact⟨t0,by omega,by omega,N.st,N.fz _ _ t1 t3,t4.of fun i=>⟨N.dd _ fun q=>(hY _ q).2 rfl,N.cc _ fun q=>(hX _ q).2 rfl⟩,t5.of fun i hi=>⟨N.dd _ fun q=>(hY _ q).1 hi,N.cc _ fun q=>(hX _ q).1 hi⟩,R,t7,hu,t9,hl⟩
theorem Wo.of(N:Nz n d C X Y d' C' h' n')(hX:∀ r∈X,r.1<200∨9000<r.1)(hY:∀ r∈Y,(r.1<200∨9000<r.1)∧r≠(70,0)∧r≠(100,0)):Wo d C d' C':=
 ⟨N.dd _ fun q=>(hY _ q).2.1 rfl,N.dd _ fun q=>(hY _ q).2.2 rfl,fun r h1 h2=>⟨N.dd _ fun q=>by have:=(hY _ q).1;omega,N.cc _ fun q=>by have:=hX _ q;omega⟩⟩
theorem Pg.mem{W W':List Int}{L L':List Value}{k k':Nat}{K:List Int}(P:Pg E W L k K d C)(M:jm d' C' W' L' k')(fr:∀ r,r.1∈sA→r.1≠0→r.1≠1→r.1≠2→d' r=d r∧C' r=C r)(h0:d' rM=d rM)(hk:k≤k')(hW:W'.length=W.length)(hw:∀ i,E.p5≤i→i<E.p6+E.l.H.length→W'[i]? = W[i]?):Pg E W' L' k' K d' C':=by
 obtain⟨stk,tag,X,xk,R,rk,-,B,Pk,I,ht⟩:=P;refine⟨stk,tag,X,xk,R,rk,M,?_,?_,I,fun j hj=>by have:=ht j hj;omega⟩
 ·exact B.vp h0 fun i hi=>by
   have:i=4∨i=70∨i=71∨i=72∨i=73∨i=74∨i=75∨i=76∨i=77∨i=78:=by omega
   rcases this with rfl|rfl|rfl|rfl|rfl|rfl|rfl|rfl|rfl|rfl
   all_goals exact fr (_,0) (by simp) (by simp) (by simp) (by simp)
 ·obtain⟨h6,sz,len,head,tg,link,mem,nd⟩:=Pk;refine⟨h6,by omega,len,fun k hk=>?_,tg,fun k hk=>?_,mem,nd⟩
  ·rw[hw _ qJ qJ];exact head k hk
  ·exact(link k hk).of fun t ht=>hw _ (by have:=(mem k t hk ht).1;omega) (by have:=(mem k t hk ht);omega)
end
end Go.Proofs.YtofmbmclopgldaaGreat
namespace Go.Proofs.YtofmbmclopgldaaGreat
open Go.Am Go.Proofs.Tryz
theorem oQ:UW OB:=⟨rfl,rfl,rfl⟩
def zM(pb:Nat)(th ht tw tr pc hd lk got fl e:Int):List Value:=[pt pb,I6 th,I6 ht,I6 tw,I6 tr,U8 pc,U6 hd,U6 lk,I6 got,I6 fl,I6 e]
abbrev vL(a0 a1 a2 a3 a4 a5 a6 a7 a8 a9 vJ wu zu zH zI EN EO EP ER ES ET:Value)(q5 q6:Int)(a23 EU a25 a26 a27:Value):List Value:=[a0,a1,a2,a3,a4,a5,a6,a7,a8,a9,vJ,wu,zu,zH,zI,EN,EO,EP,ER,ES,ET,I6 q5,I6 q6,a23,EU,a25,a26,a27]
theorem Z9{h:PT aj}{n pb:Nat}{d:Rl→Nat}{C:Rl→Option aj}{th x:Int}(S:St h n d C)(ht:0≤th∧th<64)(hx:1≤x∧x≤6):
  cE prog OB 151 [pt pb,I6 th,I6 x,I6 0] h n fun r h' n'=>∃ d' C',r=iU [pt (d' (120,0)),I6 0]∧Nz n d C [(120,0)] [(120,0)] d' C' h' n'∧C' (120,0)=row (zM pb th x 0 0 4 0 0 0 0 0):=by
 obtain⟨t1,t2⟩:=ht;obtain⟨x1,x2⟩:=hx;refine ay (N:=38) func151 rfl rfl fun z hP hO hro hN hQ=>?_
 repeat' first|simp(disch:=first|omega|assumption) only[go_sem, *] | (apply xs<;>intro _)<;>try omega|refine fun (_ _:List Nat)=>?_ | (first|refine bD func82 rfl ?_ ?_ ?_ ?_ |fail)<;>intros
 exact⟨_,_,by simp(disch:=first |decide|assumption|omega) only[rM,rW,rL,aq,au,aK,aL],Nz.new qi (Nat.le_refl _) qJ (S.new (120,0) _ (Nat.le_refl _) (Nat.lt_succ_self _)),aq⟩
section
variable {h:PT aj} {n jX:Nat} {d:Rl→Nat} {C:Rl→Option aj} {W:List Int} {L:List Value} {k:Nat} {v1 v2 v3 a0 a1 a2 a3 a4 a5 a6 a7 a8 a9 vJ wu zu zH zI EN EO EP ER ES ET a23 EU a25 a26 a27:Value} {q5 q6 th x:Int}
theorem Qh{hd:Nat}{w0 lk0:Int}(S:St h n d C)(M:qz d C W L k)(e1:C (104,0)=row [pt (d qM),pt jX,v1,v2,v3])(e2:C (120,0)=row (zM (d (104,0)) th x 0 0 4 w0 lk0 0 0 0))(gl:h.get jX=row (vL a0 a1 a2 a3 a4 a5 a6 a7 a8 a9 vJ wu zu zH zI EN EO EP ER ES ET q5 q6 a23 EU a25 a26 a27))(ht:0≤th∧th<64)(hx:1≤x∧x≤6)(h5:0≤q5∧q5≤100000)(h6:0≤q6∧q6≤100000)(hhd:q5+x-1=(hd:Int))(hh:hd<W.length)(hk:k≤100000)(hw:0≤W[hd]∧W[hd]<18446744073709551616):
  cE prog OB 153 [pt (d (120,0))] h n fun r h' n'=>∃ d' C',r=iU [U8 4,.bool (decide (W[hd].tmod 65536=0))]∧Nz n d C ((120,0)::mB) [(103,0)] d' C' h' n'∧qz d' C' W (L++gU th hd 1 W[hd] W[hd] false) (k+1)∧C' (120,0)=row (if W[hd].tmod 65536=0 then zM (d (104,0)) th x 0 0 0 W[hd] lk0 0 0 6 else zM (d (104,0)) th x 0 0 5 W[hd] lk0 0 0 0):=by
 have g1:=S.at e1;have g2:=S.at e2;have n1:=S.lt e1;have n2:=S.lt e2;have hl:=HE oQ S M hk ht hh;unfold zM at g2;unfold vL at gl;generalize hx2:W[hd]=w at*;have w1:=Int.tmod_nonneg (65536:Int) hw.1;have w2:=Int.tmod_lt_of_pos w (show (0:Int)<65536 by decide);refine ay (N:=306) func153 rfl rfl fun z hP hO hro hN hQ=>?_
 repeat' first|simp(disch:=first|omega|assumption) only[go_sem, *,pL] | (apply xs<;>intro _)<;>try omega | ((with_reducible refine b8 3 ?_);refine dw 306 3 abW (by first | (simp only[go_sem, *];done)|rfl) (by kernel_rfl) (by kernel_rfl) ?_)|refine fun (_ _:List Nat)=>?_
 refine jg (hl) ?_;rintro r h2 n2 ⟨d1,C1,rfl,N1,M1⟩;have S2:=N1.st;have lP:=N1.dd (120,0) qi;have c1:=(N1.cc (120,0) qi).trans e2;have g5:=S2.at c1;rw[lP] at g5;unfold zM at g5;clear g1 g2 hl gl
 repeat' first|simp(disch:=first|omega|assumption) only[go_sem, *,pL] | (apply xs<;>intro _)<;>try omega | ((with_reducible refine b8 37 ?_);refine dw 306 37 aas (by first | (simp only[go_sem, *];done)|rfl) (by kernel_rfl) (by kernel_rfl) ?_)|refine fun (_ _:List Nat)=>?_
 ·exact⟨_,_,(N1.sub (by simp) (by simp)).trans (Nz.set qi c1 (((S2.set (120,0) _ c1 lP).re lP).re lP)),M1.of fun a ha hb=>⟨rfl,au qJ⟩,aq⟩
 ·exact⟨_,_,(N1.sub (by simp) (by simp)).trans (Nz.set qi c1 ((S2.set (120,0) _ c1 lP).re lP)),M1.of fun a ha hb=>⟨rfl,au qJ⟩,aq⟩
theorem U0{a:Nat}{w t lk0:Int}(S:St h n d C)(M:qz d C W L k)(e1:C (104,0)=row [pt (d qM),pt jX,v1,v2,v3])(e2:C (120,0)=row (zM (d (104,0)) th x 0 0 5 w lk0 0 0 0))(gl:h.get jX=row (vL a0 a1 a2 a3 a4 a5 a6 a7 a8 a9 vJ wu zu zH zI EN EO EP ER ES ET q5 q6 a23 EU a25 a26 a27))(ht:0≤th∧th<64)(hx:1≤x∧x≤6)(h5:0≤q5∧q5≤100000)(h6:0≤q6∧q6≤100000)(hw:w.tmod 65536=t)(hta:1≤t∧t<65536)(hqa:q6+t-1=(a:Int))(ha:a<W.length)(hk:k≤100000):
  cE prog OB 153 [pt (d (120,0))] h n fun r h' n'=>∃ d' C',r=iU [U8 5,.bool false]∧Nz n d C ((120,0)::mB) [(103,0)] d' C' h' n'∧qz d' C' W (L++gU th a 1 W[a] W[a] false) (k+1)∧C' (120,0)=row (zM (d (104,0)) th x 0 0 6 w W[a] 0 0 0):=by
 have g1:=S.at e1;have g2:=S.at e2;have n1:=S.lt e1;have n2:=S.lt e2;have hl:=HE oQ S M hk ht ha;unfold zM at g2;unfold vL at gl;have Py:q6-1+t=(a:Int):=by omega
 generalize hx2:W[a]=y at*;refine ay (N:=306) func153 rfl rfl fun z hP hO hro hN hQ=>?_
 repeat' first|simp(disch:=first|omega|assumption) only[go_sem, *,pL] | (apply xs<;>intro _)<;>try omega | ((with_reducible refine b8 3 ?_);refine dw 306 3 abW (by first | (simp only[go_sem, *];done)|rfl) (by kernel_rfl) (by kernel_rfl) ?_)|refine fun (_ _:List Nat)=>?_
 refine jg (hl) ?_;rintro r h2 n2 ⟨d1,C1,rfl,N1,M1⟩;have S2:=N1.st;have lP:=N1.dd (120,0) qi;have c1:=(N1.cc (120,0) qi).trans e2;have g5:=S2.at c1;rw[lP] at g5;unfold zM at g5;clear g1 g2 hl gl
 repeat' first|simp(disch:=first|omega|assumption) only[go_sem, *,pL] | (apply xs<;>intro _)<;>try omega | ((with_reducible refine b8 37 ?_);refine dw 306 37 aas (by first | (simp only[go_sem, *];done)|rfl) (by kernel_rfl) (by kernel_rfl) ?_)|refine fun (_ _:List Nat)=>?_
 exact⟨_,_,(N1.sub (by simp) (by simp)).trans (Nz.set qi c1 ((S2.set (120,0) _ c1 lP).re lP)),M1.of fun a ha hb=>⟨rfl,au qJ⟩,aq⟩
theorem Z_{hd b t:Nat}{T:List Bool}{g:Int}(S:St h n d C)(M:qz d C W L k)(e1:C (104,0)=row [pt (d qM),pt jX,.slice (some ⟨d (105,0),0,none⟩) T.length T.length,v2,v3])(e3:C (105,0)=row (T.map .bool))(e2:C (120,0)=row (zM (d (104,0)) th x 0 0 6 ((t:Int)+65536*g) b 0 0 0))(gl:h.get jX=row (vL a0 a1 a2 a3 a4 a5 a6 a7 a8 a9 vJ wu zu zH zI EN EO EP ER ES ET q5 q6 a23 EU a25 a26 a27))(ht:0≤th∧th<64)(hx:1≤x∧x≤6)(h5:0≤q5∧q5≤100000)(h6:0≤q6∧q6≤100000)(hhd:q5+x-1=(hd:Int))(hh:hd<W.length)(hw:W[hd]=(t:Int)+65536*g)(hta:1≤t∧t<65536)(htT:t<T.length)(hg:0≤g∧g<1000000)(hb:b≤1024)(hk:k≤100000):
  cE prog OB 153 [pt (d (120,0))] h n fun r h' n'=>∃ d' C',r=iU [U8 6,.bool true]∧Nz n d C ((105,0)::(120,0)::mB) [(103,0)] d' C' h' n'∧qz d' C' (W.set hd ((b:Int)+65536*(g+1))) (L++gU th hd 4 ((t:Int)+65536*g) ((b:Int)+65536*(g+1)) true) (k+1)∧C' (120,0)=row (zM (d (104,0)) th x 0 0 0 ((t:Int)+65536*g) b t 0 0)∧C' (105,0)=row ((T.set t true).map .bool):=by
 have g1:=S.at e1;have g2:=S.at e2;have n1:=S.lt e1;have n2:=S.lt e2;have hl:=afY (x:=(b:Int)+65536*(g+1)) oQ S M hk ht hh hw;unfold zM at g2;unfold vL at gl;have hdv:=(wF (t:=(t:Int)) (g:=g) ⟨by omega,by omega⟩ hg.1);obtain⟨hdv,hmd⟩:=hdv;have htl:(T.map Value.bool).length=T.length:=List.length_map _;have hts:(T.map Value.bool).set t (.bool true)=(T.set t true).map .bool:=by rw[List.map_set]
 have ht3:(t:Int)<T.length:=by omega
 generalize hV:(t:Int)+65536*g=V at*;generalize hU:(b:Int)+65536*(g+1)=U at*;have hU2:0≤U∧U<18446744073709551616:=by omega
 have aF1:AJ [.int .u64 V]=some (.pure (.int .u64 g)):=by
  exact(if_pos (show 0≤V∧V<18446744073709551616 by omega)).trans (by rw[hdv])
 have aqG:AK [.int .u64 (g+1),.int .i64 (b:Int)]=some (.pure (.tuple ⟨[.int .u64 U,.int .i64 0]⟩)):=by
  exact(if_pos (show (0≤g+1∧g+1≤1099511627775)∧0≤(b:Int)∧(b:Int)≤1024 by omega)).trans (by rw[hU])
 refine ay (N:=306) func153 rfl rfl fun z hP hO hro hN hQ=>?_
 repeat' first|simp(disch:=first|omega|assumption) only[go_sem, *,pL] | (apply xs<;>intro _)<;>try omega | ((with_reducible refine b8 3 ?_);refine dw 306 3 abW (by first | (simp only[go_sem, *];done)|rfl) (by kernel_rfl) (by kernel_rfl) ?_) | ((with_reducible refine b8 20 ?_);refine dw 306 20 aeS (by first | (simp only[go_sem, *];done)|rfl) (by kernel_rfl) (by kernel_rfl) ?_) | ((with_reducible refine b8 21 ?_);refine dw 306 21 aeT (by first | (simp only[go_sem, *];done)|rfl) (by kernel_rfl) (by kernel_rfl) ?_)
 refine jg (hl) ?_;rintro r h2 n2 ⟨d1,C1,rfl,N1,M1⟩;intro rd wr;have S2:=N1.st;have lP:=N1.dd (120,0) qi;have dd4:=N1.dd (104,0) qi;have dd5:=N1.dd (105,0) qi;have c1:=(N1.cc (120,0) qi).trans e2;have c2:=(N1.cc (104,0) qi).trans e1;have c3:=(N1.cc (105,0) qi).trans e3;have g5:=S2.at c1;have g6:=S2.at c2;have g7:=S2.at c3;have d17:=S2.df c1 c3 qi;have d16:=S2.df c1 c2 qi;rw[lP] at g5 d17 d16;rw[dd4] at g6 d16;rw[dd5] at g7 d17;unfold zM at g5;clear g1 g2 hl gl
 repeat' first|simp(disch:=first|omega|assumption) only[go_sem, *,pL] | (apply xs<;>intro _)<;>try omega | ((with_reducible refine b8 37 ?_);refine dw 306 37 aas (by first | (simp only[go_sem, *];done)|rfl) (by kernel_rfl) (by kernel_rfl) ?_)
 have T1:St _ n2 d1 (upd C1 (120,0) (row (zM (d (104,0)) th x 0 0 0 V b t 0 0))):=(S2.set (120,0) (.cells (PT.ofList .leaf 0 (zM (d (104,0)) th x 0 0 6 V b t 0 0)) false) c1 lP).re lP;exact⟨_,_,((N1.sub (by simp) (by simp)).trans (Nz.set qi c1 T1)).trans (Nz.set qi ((au qi).trans c3) (T1.set (105,0) _ ((au qi).trans c3) dd5)),(M1.of fun a ha hb=>⟨rfl,(au qJ).trans (au qJ)⟩),by rw[au qi,aq],aq⟩
end
end Go.Proofs.YtofmbmclopgldaaGreat
namespace Go.Proofs.YtofmbmclopgldaaGreat
open Go.Am Go.Proofs.Tryz
theorem jm.vl{P:List Rl}{d:Rl→Nat}{C:Rl→Option aj}{W:List Int}{L:List Value}{k:Nat}(M:jm d C W L k)(h:∀ r∈mA,r∈P):jm d (vl P C) W L k:=M.of fun a ha=>⟨rfl,pO (h _ (by
 have:a=0∨a=1∨a=2:=by omega
 rcases this with rfl|rfl|rfl<;>simp))⟩
theorem jm.from{P:List Rl}{d:Rl→Nat}{C C1:Rl→Option aj}{W:List Int}{L:List Value}{k:Nat}(M:jm d C1 W L k)(hC:∀ r∈P,C r=C1 r)(h:∀ r∈mA,r∈P):jm d C W L k:=M.of fun a ha=>⟨rfl,hC _ (h _ (by
 have:a=0∨a=1∨a=2:=by omega
 rcases this with rfl|rfl|rfl<;>simp))⟩
theorem Rf.acc{E:Ev}{W W':List Int}{L L':List Value}{k k':Nat}{K:List Int}{d d':Rl→Nat}{C C':Rl→Option aj}{h':PT aj}{n n':Nat}(R:Rf E W L k K d C)(N:Nz n d C mB [(103,0)] d' C' h' n')(M:qz d' C' W' L' k'):Rf E W' L' k' K d' C':=by
 obtain⟨m0,⟨pv,vv,m1⟩,m2,m3,m4,m5,m6,m7,m8,m9⟩:=R;have c:=fun a (ha:(a,0)∉mB)=>N.cc (a,0) ha;have dd:=fun a (ha:(a,0)∉[((103:Nat),(0:Nat))])=>N.dd (a,0) ha;refine⟨M,⟨pv,vv,?_⟩,?_,?_,?_,?_,?_,?_,?_,m9⟩
 ·rw[c 100 qi,m1,dd 101 qi,dd 104 qi,dd 108 qi,dd 109 qi,dd 110 qi]
 ·rw[c 104 qi,m2,dd 101 qi,dd 105 qi,dd 106 qi,dd 107 qi]
 ·rw[c 105 qi,m3]
 ·rw[c 106 qi,m4]
 ·rw[c 107 qi,m5]
 ·rw[c 108 qi,m6,dd 101 qi]
 ·rw[c 109 qi,m7]
 ·rw[c 110 qi,m8]
theorem nY{W:List Int}(hW:∀ x∈W,0≤x∧x<18446744073709551616){a:Nat}{v:Int}(hv:0≤v∧v<18446744073709551616):∀ x∈W.set a v,0≤x∧x<18446744073709551616:=fun x hx=>by
 rcases List.mem_or_eq_of_mem_set hx with h|rfl
 ·exact hW x h
 ·exact hv
def Sd.st(s:Sd)(th:Int)(a:Nat)(x:Int):Sd:=⟨s.W.set a x,s.L++gU th a 2 (vm s.W a) x false,s.k+1,s.K⟩
section
variable {E:Ev} {a b:Sd} {d:Rl→Nat} {C:Rl→Option aj} {h:PT aj} {n:Nat}
theorem Cv(T:Tw E a b d C h n)(hka:a.k≤90000)(hkb:b.k≤90000){th x:Int}{i:Nat}(ht:0≤th∧th<64)(hi:i<E.sz)(hx:0≤x∧x<18446744073709551616)(hp:i<E.p5∨E.p6+E.l.H.length≤i):
  cE prog OB 84 [two d,I6 th,I6 i,U6 x] h n fun v h' n'=>v = .bool true∧∃ d' C',Tw E (a.st th i x) (b.st th i x) d' C' h' n'∧Wo d C d' C':=by
 have U1:i<a.W.length:=by rw[T.la];exact hi
 have hib:i<b.W.length:=by rw[T.lb];exact hi
 obtain⟨stk,tag,X,xk,R,rk,M,B,Pk,I,EV⟩:=T.pg;obtain⟨⟨wc,q0⟩,-⟩:=T.rf.mem;obtain⟨pv,vv,qb⟩:=T.rf.base;refine ay (N:=26) func84 rfl rfl fun z hP hO hro hN hQ=>?_
 repeat' first|simp(disch:=try exact yj) only[go_sem, *] | (apply xs<;>intro _)<;>try omega
 obtain⟨d1,C1,N1,HJ,FB⟩:∃ d1 C1,Nz n d C [(90,0)] [(90,0)] d1 C1 (h.set n (row [pt (d (70,0)),pt (d qB)])) (n+1)∧d1 (90,0)=n∧C1 (90,0)=row [pt (d (70,0)),pt (d qB)]:=
  ⟨_,_,Nz.new qi (Nat.le_refl _) (Nat.le_succ _) (T.st.new (90,0) _ (Nat.le_refl _) (Nat.lt_succ_self _)),aq,aq⟩
 have T1:=T.own N1 qi qi;have d70:=N1.dd (70,0) qi;have dqb:=N1.dd qB qi;have dM:=N1.dd rM qi;have dqM:=N1.dd qM qi;have mV:=(N1.cc (70,0) qi).trans B.base;have bqb:=(N1.cc qB qi).trans qb;generalize h.set n _=h1 at*;have FA:=T1.st.at mV;have Lu:=T1.st.at bqb;have g90:=T1.st.at FB;rw[d70] at FA;rw[dqb] at Lu;rw[HJ] at g90;have M1:jm d1 C1 a.W a.L a.k:=M.fr N1.cc N1.dd qi qi;have st:=fun h1 s1=>(P3 (h:=h1) (n:=n+1) (x:=x) s1 (M1.vl (P:=mA) fun _ h=>h) qJ ht U1).mono (R':=fun v h' n'=>∃ d' C',Nz (n+1) d1 (vl mA C1) mA [(2,0)] d' C' h' n'∧v=I6 0∧jm d' C' (a.W.set i x) (a.L++gU th i 2 a.W[i] x false) (a.k+1)) fun v h' n' ⟨d',C',e,N,M⟩=>⟨d',C',N,e,M⟩;rw[dM] at st
 repeat' first|simp(disch:=try exact yj) only[go_sem, *,Ez] | (apply xs<;>intro _)<;>try omega | ((with_reducible refine b8 1 ?_);refine dw 26 1 aoJ (by first | (simp only[go_sem, *];done)|rfl) (by kernel_rfl) (by kernel_rfl) ?_)
 refine lN mA T1.st st qi qi (by simp only[*]) (by simp only[*]) (by simp only[go_sem, *]) (by simp only[go_sem, *]) ?_;rintro v h2 n2 d2 C0 C2 N2 hC ⟨rfl,M2⟩ rd wr hme;have m90:=hme (d1 (90,0)) (T1.st.lt FB) (T1.st.off FB qi);have EW:=hme (d1 qB) (T1.st.lt bqb) (T1.st.off bqb qi);rw[HJ] at m90;rw[dqb] at EW;obtain⟨⟨m1,m2⟩,m3,m4⟩:=m90;obtain⟨⟨m5,m6⟩,m7,m8⟩:=EW;have arz:=(N2.cc (90,0) qi).trans FB;have arA:=(N2.cc qB qi).trans bqb;have Cw:=N2.st.at arz;have uz:=N2.st.at arA;rw[N2.dd (90,0) qi,HJ] at Cw;rw[N2.dd qB qi,dqb] at uz;have T2:Tw E (a.st th i x) b d2 C2 h2 n2:=T1.ZK (a':=a.st th i x) N2 qi qi (T1.pg.mem (by
   have:=M2.from (C:=C2) hC fun _ h=>h;rw[←iJ U1] at this;exact this) (fun r h1 h2 h3 h4=>⟨N2.dd r fun q=>by simp at q;exact h4 (by rw[q]),N2.cc r fun q=>by simp at q;rcases q with q |q |q<;>simp[q] at h2 h3 h4⟩) (N2.dd rM qi) (by simp[Sd.st]) (by simp[Sd.st]) fun j h1 h2=>by simp only[Sd.st];rw[List.getElem?_set_ne qJ])
   (by exact nY T.ua hx) (by simp[Sd.st];exact T.la)
 have hq:=wD (x:=x) oQ T2.st T2.rf.mem qJ ht hib;rw[N2.dd qM qi,dqM] at hq;have ltb:=T.st.lt qb;have r1:(n+1).ble (d qB)=false:=by rw[←Bool.not_eq_true,Nat.ble_eq];omega
 clear st FA Lu g90 hme M2
 repeat' first|simp(disch:=try exact yj) only[go_sem, *] | (apply xs<;>intro _)<;>try omega
 refine jg (hq) ?_;rintro v h3 n3 ⟨d3,C3,rfl,N3,M3⟩;intro RB RC
 repeat' first|simp(disch:=try exact yj) only[go_sem, *] | (apply xs<;>intro _)<;>try omega
 rw[←iJ hib] at M3;refine⟨d3,C3,T2.atB (b':=b.st th i x) N3 qi qi (T2.rf.acc N3 M3) (nY T.ub hx) (by simp[Sd.st];exact T.lb),?_⟩;exact((Wo.of N1 qi qi).trans (Wo.of N2 qi qi)).trans (Wo.of N3 qi qi)
end
end Go.Proofs.YtofmbmclopgldaaGreat
namespace Go.Proofs.YtofmbmclopgldaaGreat
open Go.Am Go.Proofs.Tryz
theorem _root_.Go.Am.St.take{h h':PT aj}{n n' b:Nat}{d:Rl→Nat}{C:Rl→Option aj}{B:aj}(S:St h n d C)(k:Kept h h')(w:bQ h' n')(r:Rl)(hb:n≤b)(e:h'.get b=some B):St h' n' (upd d r b) (upd C r (some B)):=by
 refine⟨fun s D q=>?_,fun s t q1 q2 q=>?_,w⟩
 ·unfold upd at q ⊢;split at q
  ·rename_i c;rw[if_pos c,e];exact q
  ·rename_i c;rw[if_neg c];exact k _ _ (S.get s D q)
 ·unfold upd at q q1 q2;by_cases c1:s=r
  ·by_cases c2:t=r
   ·rw[c1,c2]
   ·rw[if_pos c1,if_neg c2] at q;rw[if_neg c2] at q2;obtain⟨B',hB⟩:=Option.ne_none_iff_exists'.1 q2;have:=S.lt hB;omega
  ·by_cases c2:t=r
   ·rw[if_neg c1,if_pos c2] at q;rw[if_neg c1] at q1;obtain⟨B',hB⟩:=Option.ne_none_iff_exists'.1 q1;have:=S.lt hB;omega
   ·rw[if_neg c1,if_neg c2] at q;rw[if_neg c1] at q1;rw[if_neg c2] at q2;exact S.inj s t q1 q2 q
theorem Nz.take{h h':PT aj}{n n' b:Nat}{d:Rl→Nat}{C:Rl→Option aj}{B:aj}{t u:Nat}(S:St h n d C)(k:Kept h h')(w:bQ h' n')(hn:n≤n')(h9:t≠9999)(hb:n≤b)(e:h'.get b=some B):Nz n d C [(t,u)] [(t,u)] (upd d (t,u) b) (upd C (t,u) (some B)) h' n':=
 ⟨hn,S.take k w (t,u) hb e,fun h1 n2 q F=>F.new h9 qJ _,fun r hr=>bB fun q=>hr (q ▸ by simp),fun r hr=>bB fun q=>hr (q ▸ by simp)⟩
def rK(k:IntKind)(v:Value)(xs:List Int)(d:Rl→Nat)(C:Rl→Option aj)(r:Rl):Prop:=(v = .slice none 0 0∧xs=[])∨∃ c,v = .slice (some ⟨d r,0,none⟩) xs.length c∧C r=row (xs.map (.int k))
theorem Lv{h:PT aj}{N mb wb:Nat}{lg:Value}{W:List Int}(hW:bQ h N)(hm:h.get mb=row [.slice (some ⟨wb,0,none⟩) W.length W.length,lg])(hw:h.get wb=row (W.map (.int .u64)))(rQ:W.length≤65536):
  cE prog OB 20 [pt mb] h N fun r h' n'=>r = .slice (some ⟨N,0,none⟩) W.length W.length∧h'.get N=row (W.map (.int .u64))∧Kept h h'∧bQ h' n'∧N≤n':=by
 have q5:=hW.lt hm;have q6:=hW.lt hw;have hc7:Nat.ble W.length 1048576=true:=Nat.ble_eq_true_of_le qJ;have hz:rep [Value.int .u64 0] W.length=(List.replicate W.length (0:Int)).map (.int .u64):=by rw[iE,List.map_replicate]
 refine ay (N:=33) func20 rfl rfl fun z hP hO hro hN hQ=>?_
 repeat' first|simp(disch:=try exact yj) only[go_sem, *] | (apply xs<;>intro _)<;>try omega|refine fun (_ _:List Nat)=>?_ | (first|refine bD func69 rfl ?_ ?_ ?_ ?_ |fail)<;>intros
 obtain⟨L0,hL0,hl0⟩:∃ L0:List Int,L0=List.replicate W.length 0∧L0.length=W.length:=⟨_,rfl,by rw[List.length_replicate]⟩;rw[←hL0];clear hL0 hz;refine a_ (fun t m h' n'=>∃ (i:Nat) (L:List Int),i≤W.length∧t=W.length-i∧L.length=W.length∧L.take i=W.take i∧m.n=33∧m.fF=[]∧m.get 0=pt mb∧m.get 3 = .slice (some ⟨N,0,none⟩) W.length W.length∧m.get 17=I6 W.length∧m.get 18=I6 i∧h'.get N=row (L.map (.int .u64))∧Kept h h'∧bQ h' n'∧N+1=n') W.length ?_ ?_
 ·refine⟨0,L0,by omega,by omega,hl0,by simp,?_⟩;simp(disch:=try exact yj) only[go_sem, *];exact⟨hW.kept (Nat.le_refl _),hW.set (Nat.le_succ _) (Nat.lt_succ_self _)⟩
 ·clear hl0 L0;rintro t m h' n' ih ⟨i,L,hi,rfl,hl,zJ,m1,m2,m3,m4,m5,m6,gN,kq,wq,rfl⟩;have hm:=kq _ _ hm;have hw:=kq _ _ hw;by_cases hlt:i<W.length
  ·have e7:(i:Int)<W.length:=by omega
   have hgw:(W.map (Value.int .u64))[i]? = some (U6 W[i]):=by rw[List.getElem?_map,List.getElem?_eq_getElem hlt];rfl
   have L6:(L.map (Value.int .u64))[i]? = some (U6 (L.getD i 0)):=by rw[List.getElem?_map];simp[List.getD,show i<L.length by omega]
   have hi1:(i:Int)+1=((i+1:Nat):Int):=by omega
   have agb:(L.set i W[i]).take (i+1)=W.take (i+1):=by
    rw[List.take_add_one,List.take_add_one,List.take_set_of_le (Nat.le_refl _),zJ,List.getElem?_set_self qJ,List.getElem?_eq_getElem hlt]
   generalize W[i]=x at hgw agb;clear zJ
   repeat' first|simp(disch:=try exact yj) only[go_sem, *] | (apply xs<;>intro _)<;>try omega|refine fun (_ _:List Nat)=>?_ | (first|refine bD func69 rfl ?_ ?_ ?_ ?_ |fail)<;>intros
   refine ih (W.length-(i+1)) _ _ _ qJ ⟨i+1,L.set i x,by omega,rfl,by rw[List.length_set];exact hl,agb,?_⟩;clear ih;simp(disch:=try exact yj) only[go_sem, *];exact⟨by rw[List.map_set],Kept.set' hW (Nat.le_refl _) kq,bQ.set' qJ wq⟩
  ·have e7: ¬ (i:Int)<W.length:=by omega
   obtain rfl:i=W.length:=by omega
   have hLW:L=W:=by rw[List.take_of_length_le qJ,List.take_of_length_le (Nat.le_refl _)] at zJ;exact zJ
   subst hLW;clear ih zJ hl
   repeat' first|simp(disch:=try exact yj) only[go_sem, *] | (apply xs<;>intro _)<;>try omega|refine fun (_ _:List Nat)=>?_ | (first|refine bD func69 rfl ?_ ?_ ?_ ?_ |fail)<;>intros
   first|exact Nat.le_succ _ |exact⟨gN,Nat.le_succ _⟩
theorem aac{h:PT aj}{n:Nat}{d:Rl→Nat}{C:Rl→Option aj}{W:List Int}{L:List Value}{k:Nat}(S:St h n d C)(M:jm d C W L k)(hw:W.length≤65536):
  cE prog OB 20 [pt (d rM)] h n fun v h' n'=>∃ d' C',Nz n d C [(140,0)] [(140,0)] d' C' h' n'∧rK .u64 v W d' C' (140,0):=by
 refine(Lv S.wf (S.at M.mem) (S.at M.words) hw).mono ?_;rintro v h' n' ⟨rfl,g,k,w,l⟩;exact⟨_,_,Nz.take S k w l qi (Nat.le_refl _) g,.inr ⟨_,by rw[aq],aq⟩⟩
theorem EX:∀ (vs A B:List Value),B.length=vs.length→rj (A++B) A.length vs=A++vs
 | [],A,B,h=>by
  rw[List.eq_nil_of_length_eq_zero h];rfl
 |v::vs,A,[],h=>by simp at h
 |v::vs,A,b::B,h=>by
  have q:(A++b::B).set A.length v=(A++[v])++B:=by simp
  have:=EX vs (A++[v]) B (by simpa using h);rw[List.length_append] at this;rw[rj,q]
  simpa using this
@[go_sem] theorem Lw{L vs:List Value}(h:vs.length=L.length):rj L 0 vs=vs:=by
 have:=EX vs [] L h.symm
 simpa using this
attribute [go_sem] Nat.min_self
@[go_sem] theorem EY{a b c d e f:Value}{k:Nat}:(Go.Am.rep [a,b,c,d,e,f] k).length=k*6:=wU _ _
theorem Qi{L:List Value}{i:Nat}(h:L.all bw=true):(L.drop i).all bw=true:=by
 rw[List.all_eq_true] at h ⊢;exact fun x hx=>h x (List.mem_of_mem_drop hx)
theorem agc{n kk fr:Nat}{W:List Int}{L:List Value}{d:Rl→Nat}{C:Rl→Option aj}{h:PT aj}(S:St h n d C)(M:jm d C W L kk)(hk:kk≤100000)(hw:W.length≤100000)(hf:fr≤kk)(hone:L.all bw=true):
  cE prog OB 43 [pt (d rM),I6 fr] h n fun v h' n'=>∃ d' C',v=(if fr<kk then .slice (some ⟨d' (141,0),0,none⟩) (kk-fr) (kk-fr) else .slice none 0 0)∧Nz n d C [(141,0)] [(141,0)] d' C' h' n'∧(fr<kk→C' (141,0)=row (L.drop (fr*6))):=by
 have gM:=S.at M.mem;have nM:=S.lt M.mem;have f0: ¬ (fr:Int)<0:=by omega
 by_cases c:fr<kk
 ·have hl:wB (d rL) kk = .slice (some ⟨d rL,0,none⟩) kk (aA+6):=if_neg qJ;rw[hl] at gM;have hL:C rL=row L:=by
   rcases M.log with ⟨q,_⟩ | ⟨_,q⟩
   ·omega
   ·exact q
  have gL:=S.at hL;have nL:=S.lt hL;have hlen:=M.len;have f1: ¬ (fr:Int)≥kk:=by omega
  have f2:(kk:Int)-fr=((kk-fr:Nat):Int):=by omega
  have zJ:List.take ((kk-fr)*6) (List.drop (fr*6) L)=List.drop (fr*6) L:=List.take_of_length_le (by rw[List.length_drop];omega);have hdl:(List.drop (fr*6) L).length=(kk-fr)*6:=by rw[List.length_drop];omega
  have hal:=Qi (i:=fr*6) hone;have hpos:0<kk-fr:=by omega
  clear hl hL;refine ay (N:=31) func43 rfl rfl fun z hP hO hro hN hQ=>?_
  repeat' first|simp(disch:=first|omega|assumption) only[go_sem, *] | (apply xs<;>intro _)<;>try omega|refine fun (_ _:List Nat)=>?_
  have S1:=S.new (141,0) (.cells (PT.ofList .leaf 0 (Go.Am.rep [.int .i64 0,.int .i64 0,.int .u8 0,.int .u64 0,.int .u64 0,.bool false] (kk-fr))) false) (Nat.le_refl _) (Nat.lt_succ_self _);exact⟨_,_,by (simp(disch:=first |decide|assumption|omega) only[rM,rW,rL,aq,au,aK,aL])<;>rfl,(Nz.new (t:=141) (b:=0) qi (Nat.le_refl _) (Nat.le_succ _) S1).trans (Nz.set (t:=141) (b:=0) qi aq (S1.set (141,0) _ aq aq)),fun _=>by rw[aq,Lw (by rw[hdl];exact EY.symm)]⟩
 ·have f1:(fr:Int)≥kk:=by omega
  rcases M.log with ⟨q,rfl⟩ | ⟨q,hL⟩
  ·subst q;have hl:wB (d rL) 0 = .slice none 0 0:=if_pos rfl;rw[hl] at gM;clear hl;refine ay (N:=31) func43 rfl rfl fun z hP hO hro hN hQ=>?_
   repeat' first|simp(disch:=first|omega|assumption) only[go_sem, *] | (apply xs<;>intro _)<;>try omega|refine fun (_ _:List Nat)=>?_
   refine⟨d,C,?_⟩;simp[Nz.refl S]
  ·have hl:wB (d rL) kk = .slice (some ⟨d rL,0,none⟩) kk (aA+6):=if_neg qJ;rw[hl] at gM;clear hl;refine ay (N:=31) func43 rfl rfl fun z hP hO hro hN hQ=>?_
   repeat' first|simp(disch:=first|omega|assumption) only[go_sem, *] | (apply xs<;>intro _)<;>try omega|refine fun (_ _:List Nat)=>?_
   refine⟨d,C,?_⟩;simp[Nz.refl S]
end Go.Proofs.YtofmbmclopgldaaGreat
