/-
A part.
-/
import Derived.Test.YtofmbmclopgldaaGreatSP1
import Derived.Test.YtofmbmclopgldaaGreatCC0
set_option linter.all false
set_option maxRecDepth 100000
set_option maxHeartbeats 16000000
namespace Go.Proofs.YtofmbmclopgldaaGreat
open Go.Am
structure Ev where
 h1:PT aj
 n1:Nat
 hz:PT aj
 nz:Nat
 lb:Nat
 jX:Nat
 l:dg
 V:Int
 sz:Nat
 p5:Nat
 p6:Nat
 kd:Int
 dn:Int
 xs:List Int
 cv:Value
 hv:Value
 S2:List Value
 Wt:List (Int×Int×Int)
structure tF(E:Ev):Prop where
 look:(zK (pt E.lb)).look E.h1=some E.l
 num:qy E.l E.V E.sz
 e5:E.l.P.getD 5 0=E.p5
 e6:E.l.P.getD 6 0=E.p6
 hp:E.p6≤60000
 aru:∃ a b c e f1 f2 f3 f4 f5 f6 g1 g2 g3 cv rest,E.l.S=[I6 a,I6 b,U8 c,I6 e,U8 E.kd,I6 E.dn,cv,I6 f1,I6 f2,I6 f3,I6 f4,I6 f5,I6 f6,I6 g1,I6 g2,I6 g3]++rest∧aN .u64 E.h1 cv E.xs
 nX:E.hz.get E.jX=row E.S2
 s2:∃ a b c e f1 f2 f3 f4 f5 f6 g1 g2 g3 wv,E.S2=[I6 a,I6 b,U8 c,I6 e,U8 E.kd,I6 E.dn,E.cv,I6 f1,I6 f2,I6 f3,I6 f4,I6 f5,I6 f6,I6 g1,I6 g2,I6 g3]++E.l.P.map (.int .i64)++[E.hv,wv]
 vo:(Ll (pt E.jX)).look E.hz=some E.Wt
 wl:E.Wt.length=E.sz
 nx:∀ r lv,-9223372036854775808≤r→r≤9223372036854775807→j5 E.l r lv=sZ E.Wt r lv
 wd:∀ t w,og E.l t w=yR E.Wt t w
 hts:aN .i64 E.hz E.hv E.l.H
 Cg:aN .u64 E.hz E.cv E.xs
 dom:cq E.kd E.dn E.xs=true
 cnt:E.V=aC E.kd E.dn E.xs
 pos:∀ x∈E.xs,0≤x∧x<18446744073709551616
 dnr : -9223372036854775808≤E.dn∧E.dn≤9223372036854775807
abbrev qB:Rl:=(100,0)
def Pg(E:Ev)(W:List Int)(L:List Value)(k:Nat)(K:List Int)(d:Rl→Nat)(C:Rl→Option aj):Prop:=
 ∃ stk tag X xk R rk,jm d C W L k∧L_ d C E.lb E.l (.slice none 0 0) (.slice none 0 0) R rk X xk (List.replicate E.l.H.length 0)∧Xg E.p5 E.p6 E.l.H.length E.l.H W stk tag∧Ri E.l.H.length E.l.H stk X xk (List.replicate E.l.H.length 0) R K 0∧∀ j,j<6→tag j≤k
def EM(K:List Int):List Int:=K.map fun k=>if k=2∨k=3 then 1 else 0
def Lt(K:List Int):List Int:=K.map fun k=>if k=3 then 1 else 0
def CT(K:List Int):List Bool:=K.map fun k=>decide (k≠0)
structure Rf(E:Ev)(W:List Int)(L:List Value)(k:Nat)(K:List Int)(d:Rl→Nat)(C:Rl→Option aj):Prop where
 mem:qz d C W L k
 base:∃ pv vv,C qB=row [pt E.jX,pt (d qM),pt (d (104,0)),pt (d (108,0)),pv,I6 0,.bool false,.slice none 0 0,.slice none 0 0,vv,.slice (some ⟨d (109,0),0,none⟩) K.length K.length,.slice (some ⟨d (110,0),0,none⟩) K.length K.length]
 pool:C (104,0)=row [pt (d qM),pt E.jX,.slice (some ⟨d (105,0),0,none⟩) K.length K.length,.slice (some ⟨d (106,0),0,none⟩) K.length K.length,.slice (some ⟨d (107,0),0,none⟩) K.length K.length]
 taken:C (105,0)=row ((CT K).map .bool)
 Z8:C (106,0)=row ((List.replicate K.length false).map .bool)
 Cn:C (107,0)=row ((List.replicate K.length (0:Int)).map (.int .i64))
 vh:C (108,0)=row [pt (d qM),pt E.jX]
 links:C (109,0)=row ((EM K).map (.int .i64))
 Cg:C (110,0)=row ((Lt K).map (.int .i64))
 len:K.length=E.l.H.length+1
abbrev sA:List Nat:=[0,1,2,4,70,71,72,73,74,75,76,77,78]
abbrev sB:List Nat:=[100,101,102,103,104,105,106,107,108,109,110]
section
variable {E:Ev} {W:List Int} {L:List Value} {k:Nat} {K:List Int} {d d':Rl→Nat} {C C':Rl→Option aj}
theorem Rf.of(M:Rf E W L k K d C)(fr:∀ a,100≤a→a≤110→d' (a,0)=d (a,0)∧C' (a,0)=C (a,0)):Rf E W L k K d' C':=by
 obtain⟨m0,⟨pv,vv,m1⟩,m2,m3,m4,m5,m6,m7,m8,m9⟩:=M;have f:=fun a h1 h2=>fr a h1 h2;refine⟨m0.of fun a h1 h2=>fr a qJ qJ,⟨pv,vv,?_⟩,?_,?_,?_,?_,?_,?_,?_,m9⟩
 ·rw[(f 100 qJ qJ).2,m1,(f 101 qJ qJ).1,(f 104 qJ qJ).1,(f 108 qJ qJ).1,(f 109 qJ qJ).1,(f 110 qJ qJ).1]
 ·rw[(f 104 qJ qJ).2,m2,(f 101 qJ qJ).1,(f 105 qJ qJ).1,(f 106 qJ qJ).1,(f 107 qJ qJ).1]
 ·rw[(f 105 qJ qJ).2,m3]
 ·rw[(f 106 qJ qJ).2,m4]
 ·rw[(f 107 qJ qJ).2,m5]
 ·rw[(f 108 qJ qJ).2,m6,(f 101 qJ qJ).1]
 ·rw[(f 109 qJ qJ).2,m7]
 ·rw[(f 110 qJ qJ).2,m8]
theorem L_.of2{lb:Nat}{l:dg}{mk ev:Value}{R:List cK}{rk:Nat}{X:List cK}{xk:Nat}{G:List Int}(B:L_ d C lb l mk ev R rk X xk G)(fr:∀ a,a∈sA→d' (a,0)=d (a,0)∧C' (a,0)=C (a,0)):L_ d' C' lb l mk ev R rk X xk G:=by
 obtain⟨b1,b2,b3,b4,b5,b6,⟨v,b7⟩⟩:=B;have f:=fr;refine⟨?_,?_,?_,?_,?_,?_,⟨v,?_⟩⟩
 ·rw[(f 70 (by simp)).2,b1,(f 0 (by simp)).1,(f 75 (by simp)).1,(f 78 (by simp)).1,(f 4 (by simp)).1,(f 73 (by simp)).1,(f 74 (by simp)).1]
 ·rw[(f 74 (by simp)).2];exact b2
 ·rw[(f 75 (by simp)).2,b3,(f 0 (by simp)).1,(f 76 (by simp)).1,(f 77 (by simp)).1]
 ·rw[(f 76 (by simp)).2];exact b4
 ·rw[(f 77 (by simp)).2];exact b5
 ·rw[(f 78 (by simp)).2,b6,(f 0 (by simp)).1]
 ·rw[(f 73 (by simp)).2];exact b7
theorem Pg.of(P:Pg E W L k K d C)(fr:∀ a,a∈sA→d' (a,0)=d (a,0)∧C' (a,0)=C (a,0)):Pg E W L k K d' C':=by
 obtain⟨stk,tag,X,xk,R,rk,M,B,Pk,I,ht⟩:=P;exact⟨stk,tag,X,xk,R,rk,M.of fun a ha=>fr a (by rcases(show a=0∨a=1∨a=2 by omega) with rfl|rfl|rfl<;>simp),B.of2 fr,Pk,I,ht⟩
end
theorem L_.vp{d d':Rl→Nat}{C C':Rl→Option aj}{lb:Nat}{l:dg}{mk ev:Value}{R:List cK}{rk:Nat}{X:List cK}{xk:Nat}{G:List Int}(B:L_ d C lb l mk ev R rk X xk G)(hM:d' rM=d rM)(fr:∀ a,a=4∨(70≤a∧a≤78)→d' (a,0)=d (a,0)∧C' (a,0)=C (a,0)):L_ d' C' lb l mk ev R rk X xk G:=by
 obtain⟨b1,b2,b3,b4,b5,b6,b7⟩:=B;refine⟨?_,?_,?_,?_,?_,?_,?_⟩
 ·rw[(fr 70 qJ).2,b1,hM,(fr 75 qJ).1,(fr 78 qJ).1,(fr 4 qJ).1,(fr 73 qJ).1,(fr 74 qJ).1]
 ·rw[(fr 74 qJ).2];exact b2
 ·rw[(fr 75 qJ).2,b3,hM,(fr 76 qJ).1,(fr 77 qJ).1]
 ·rw[(fr 76 qJ).2];exact b4
 ·rw[(fr 77 qJ).2];exact b5
 ·rw[(fr 78 qJ).2,b6,hM]
 ·obtain⟨v,hv⟩:=b7;exact⟨v,by rw[(fr 73 qJ).2];exact hv⟩
structure Sd where
 W:List Int
 L:List Value
 k:Nat
 K:List Int
structure Tw(E:Ev)(a b:Sd)(d:Rl→Nat)(C:Rl→Option aj)(h:PT aj)(n:Nat):Prop where
 ok:tF E
 le:E.n1≤n
 lz:E.nz≤n
 st:St h n d C
 fz:Fz E.h1 E.n1 d C
 fy:Fy E.hz E.nz d C
 pg:Pg E a.W a.L a.k a.K d C
 rf:Rf E b.W b.L b.k b.K d C
 ua:∀ x∈a.W,0≤x∧x<18446744073709551616
 ub:∀ x∈b.W,0≤x∧x<18446744073709551616
 la:a.W.length=E.sz
 lb:b.W.length=E.sz
structure Wo(d:Rl→Nat)(C:Rl→Option aj)(d':Rl→Nat)(C':Rl→Option aj):Prop where
 a:d' (70,0)=d (70,0)
 b:d' qB=d qB
 own:∀ r,200≤r.1→r.1≤9000→d' r=d r∧C' r=C r
theorem Wo.trans{d d' d2:Rl→Nat}{C C' C2:Rl→Option aj}(p:Wo d C d' C')(q:Wo d' C' d2 C2):Wo d C d2 C2:=⟨q.a.trans p.a,q.b.trans p.b,fun r h1 h2=>⟨(q.own r h1 h2).1.trans (p.own r h1 h2).1,(q.own r h1 h2).2.trans (p.own r h1 h2).2⟩⟩
abbrev two(d:Rl→Nat):Value := .agg ⟨[pt (d (70,0)),pt (d qB)]⟩
section
variable {E:Ev} {a b a' b':Sd} {d d':Rl→Nat} {C C':Rl→Option aj} {h h':PT aj} {n n':Nat} {X Y:List Rl}
theorem Tw.own(T:Tw E a b d C h n)(N:Nz n d C X Y d' C' h' n')(hX:∀ r∈X,(r.1∉sA∧r.1∉sB)∧r.1≠9998)(hY:∀ r∈Y,(r.1∉sA∧r.1∉sB)∧r.1≠9998):Tw E a b d' C' h' n':=by
 obtain⟨t0,t1,t1',t2,t3,t4,t5,t6,t7,t8,t9,t10⟩:=T;have l:=N.le;refine⟨t0,by omega,by omega,N.st,N.fz _ _ t1 t3,t4.of fun i=>⟨N.dd _ fun q=>(hY _ q).2 rfl,N.cc _ fun q=>(hX _ q).2 rfl⟩,t5.of fun i hi=>⟨N.dd _ fun q=>(hY _ q).1.1 hi,N.cc _ fun q=>(hX _ q).1.1 hi⟩,t6.of fun i h1 h2=>?_,t7,t8,t9,t10⟩;have hi:i∈sB:=by
  have:i=100∨i=101∨i=102∨i=103∨i=104∨i=105∨i=106∨i=107∨i=108∨i=109∨i=110:=by omega
  rcases this with rfl|rfl|rfl|rfl|rfl|rfl|rfl|rfl|rfl|rfl|rfl<;>simp
 exact⟨N.dd _ fun q=>(hY _ q).1.2 hi,N.cc _ fun q=>(hX _ q).1.2 hi⟩
theorem Tw.ZK(T:Tw E a b d C h n)(N:Nz n d C X Y d' C' h' n')(hX:∀ r∈X,r.1∉sB∧r.1≠9998)(hY:∀ r∈Y,r.1∉sB∧r.1≠9998)(P:Pg E a'.W a'.L a'.k a'.K d' C')(hu:∀ x∈a'.W,0≤x∧x<18446744073709551616)(hl:a'.W.length=E.sz):Tw E a' b d' C' h' n':=by
 obtain⟨t0,t1,t1',t2,t3,t4,t5,t6,t7,t8,t9,t10⟩:=T;have l:=N.le;refine⟨t0,by omega,by omega,N.st,N.fz _ _ t1 t3,t4.of fun i=>⟨N.dd _ fun q=>(hY _ q).2 rfl,N.cc _ fun q=>(hX _ q).2 rfl⟩,P,t6.of fun i h1 h2=>?_,hu,t8,hl,t10⟩;have hi:i∈sB:=by
  have:i=100∨i=101∨i=102∨i=103∨i=104∨i=105∨i=106∨i=107∨i=108∨i=109∨i=110:=by omega
  rcases this with rfl|rfl|rfl|rfl|rfl|rfl|rfl|rfl|rfl|rfl|rfl<;>simp
 exact⟨N.dd _ fun q=>(hY _ q).1 hi,N.cc _ fun q=>(hX _ q).1 hi⟩
theorem Tw.atB(T:Tw E a b d C h n)(N:Nz n d C X Y d' C' h' n')(hX:∀ r∈X,r.1∉sA∧r.1≠9998)(hY:∀ r∈Y,r.1∉sA∧r.1≠9998)(R:Rf E b'.W b'.L b'.k b'.K d' C')(hu:∀ x∈b'.W,0≤x∧x<18446744073709551616)(hl:b'.W.length=E.sz):Tw E a b' d' C' h' n':=by
 obtain⟨t0,t1,t1',t2,t3,t4,t5,t6,t7,t8,t9,t10⟩:=T;have l:=N.le;exact⟨t0,by omega,by omega,N.st,N.fz _ _ t1 t3,t4.of fun i=>⟨N.dd _ fun q=>(hY _ q).2 rfl,N.cc _ fun q=>(hX _ q).2 rfl⟩,t5.of fun i hi=>⟨N.dd _ fun q=>(hY _ q).1 hi,N.cc _ fun q=>(hX _ q).1 hi⟩,R,t7,hu,t9,hl⟩
theorem Wo.of(N:Nz n d C X Y d' C' h' n')(hX:∀ r∈X,r.1<200∨9000<r.1)(hY:∀ r∈Y,(r.1<200∨9000<r.1)∧r≠(70,0)∧r≠(100,0)):Wo d C d' C':=
 ⟨N.dd _ fun q=>(hY _ q).2.1 rfl,N.dd _ fun q=>(hY _ q).2.2 rfl,fun r h1 h2=>⟨N.dd _ fun q=>by have:=(hY _ q).1;omega,N.cc _ fun q=>by have:=hX _ q;omega⟩⟩
theorem Pg.mem{W W':List Int}{L L':List Value}{k k':Nat}{K:List Int}(P:Pg E W L k K d C)(M:jm d' C' W' L' k')(fr:∀ r,r.1∈sA→r.1≠0→r.1≠1→r.1≠2→d' r=d r∧C' r=C r)(h0:d' rM=d rM)(hk:k≤k')(hW:W'.length=W.length)(hw:∀ i,E.p5≤i→i<E.p6+E.l.H.length→W'[i]? = W[i]?):Pg E W' L' k' K d' C':=by
 obtain⟨stk,tag,X,xk,R,rk,-,B,Pk,I,ht⟩:=P;refine⟨stk,tag,X,xk,R,rk,M,?_,?_,I,fun j hj=>by have:=ht j hj;omega⟩
 ·exact B.vp h0 fun i hi=>by
   have:i=4∨i=70∨i=71∨i=72∨i=73∨i=74∨i=75∨i=76∨i=77∨i=78:=by omega
   rcases this with rfl|rfl|rfl|rfl|rfl|rfl|rfl|rfl|rfl|rfl
   all_goals exact fr (_,0) (by simp) (by simp) (by simp) (by simp)
 ·obtain⟨h6,sz,len,head,tg,link,mem,nd⟩:=Pk;refine⟨h6,by omega,len,fun k hk=>?_,tg,fun k hk=>?_,mem,nd⟩
  ·rw[hw _ qJ qJ];exact head k hk
  ·exact(link k hk).of fun t ht=>hw _ (by have:=(mem k t hk ht).1;omega) (by have:=(mem k t hk ht);omega)
end
end Go.Proofs.YtofmbmclopgldaaGreat
namespace Go.Proofs.YtofmbmclopgldaaGreat
open Go.Am Go.Proofs.Tryz
theorem oQ:UW OB:=⟨rfl,rfl,rfl⟩
def zM(pb:Nat)(th ht tw tr pc hd lk got fl e:Int):List Value:=[pt pb,I6 th,I6 ht,I6 tw,I6 tr,U8 pc,U6 hd,U6 lk,I6 got,I6 fl,I6 e]
abbrev vL(a0 a1 a2 a3 a4 a5 a6 a7 a8 a9 vJ wu zu zH zI EN EO EP ER ES ET:Value)(q5 q6:Int)(a23 EU a25 a26 a27:Value):List Value:=[a0,a1,a2,a3,a4,a5,a6,a7,a8,a9,vJ,wu,zu,zH,zI,EN,EO,EP,ER,ES,ET,I6 q5,I6 q6,a23,EU,a25,a26,a27]
theorem Z9{h:PT aj}{n pb:Nat}{d:Rl→Nat}{C:Rl→Option aj}{th x:Int}(S:St h n d C)(ht:0≤th∧th<64)(hx:1≤x∧x≤6):
  cE prog OB 151 [pt pb,I6 th,I6 x,I6 0] h n fun r h' n'=>∃ d' C',r=iU [pt (d' (120,0)),I6 0]∧Nz n d C [(120,0)] [(120,0)] d' C' h' n'∧C' (120,0)=row (zM pb th x 0 0 4 0 0 0 0 0):=by
 obtain⟨t1,t2⟩:=ht;obtain⟨x1,x2⟩:=hx;refine ay (N:=38) func151 rfl rfl fun z hP hO hro hN hQ=>?_
 repeat' first|simp(disch:=first|omega|assumption) only[go_sem, *] | (apply xs<;>intro _)<;>try omega|refine fun (_ _:List Nat)=>?_ | (first|refine bD func82 rfl ?_ ?_ ?_ ?_ |fail)<;>intros
 exact⟨_,_,by simp(disch:=first |decide|assumption|omega) only[rM,rW,rL,aq,au,aK,aL],Nz.new qi (Nat.le_refl _) qJ (S.new (120,0) _ (Nat.le_refl _) (Nat.lt_succ_self _)),aq⟩
section
variable {h:PT aj} {n jX:Nat} {d:Rl→Nat} {C:Rl→Option aj} {W:List Int} {L:List Value} {k:Nat} {v1 v2 v3 a0 a1 a2 a3 a4 a5 a6 a7 a8 a9 vJ wu zu zH zI EN EO EP ER ES ET a23 EU a25 a26 a27:Value} {q5 q6 th x:Int}
theorem Qh{hd:Nat}{w0 lk0:Int}(S:St h n d C)(M:qz d C W L k)(e1:C (104,0)=row [pt (d qM),pt jX,v1,v2,v3])(e2:C (120,0)=row (zM (d (104,0)) th x 0 0 4 w0 lk0 0 0 0))(gl:h.get jX=row (vL a0 a1 a2 a3 a4 a5 a6 a7 a8 a9 vJ wu zu zH zI EN EO EP ER ES ET q5 q6 a23 EU a25 a26 a27))(ht:0≤th∧th<64)(hx:1≤x∧x≤6)(h5:0≤q5∧q5≤100000)(h6:0≤q6∧q6≤100000)(hhd:q5+x-1=(hd:Int))(hh:hd<W.length)(hk:k≤100000)(hw:0≤W[hd]∧W[hd]<18446744073709551616):
  cE prog OB 153 [pt (d (120,0))] h n fun r h' n'=>∃ d' C',r=iU [U8 4,.bool (decide (W[hd].tmod 65536=0))]∧Nz n d C ((120,0)::mB) [(103,0)] d' C' h' n'∧qz d' C' W (L++gU th hd 1 W[hd] W[hd] false) (k+1)∧C' (120,0)=row (if W[hd].tmod 65536=0 then zM (d (104,0)) th x 0 0 0 W[hd] lk0 0 0 6 else zM (d (104,0)) th x 0 0 5 W[hd] lk0 0 0 0):=by
 have g1:=S.at e1;have g2:=S.at e2;have n1:=S.lt e1;have n2:=S.lt e2;have hl:=HE oQ S M hk ht hh;unfold zM at g2;unfold vL at gl;generalize hx2:W[hd]=w at*;have w1:=Int.tmod_nonneg (65536:Int) hw.1;have w2:=Int.tmod_lt_of_pos w (show (0:Int)<65536 by decide);refine ay (N:=306) func153 rfl rfl fun z hP hO hro hN hQ=>?_
 repeat' first|simp(disch:=first|omega|assumption) only[go_sem, *,pL] | (apply xs<;>intro _)<;>try omega | ((with_reducible refine b8 3 ?_);refine dw 306 3 abQ (by first | (simp only[go_sem, *];done)|rfl) (by kernel_rfl) (by kernel_rfl) ?_)|refine fun (_ _:List Nat)=>?_
 refine zc (hl) ?_;rintro r h2 n2 ⟨d1,C1,rfl,N1,M1⟩;have S2:=N1.st;have lP:=N1.dd (120,0) qi;have c1:=(N1.cc (120,0) qi).trans e2;have g5:=S2.at c1;rw[lP] at g5;unfold zM at g5;clear g1 g2 hl gl
 repeat' first|simp(disch:=first|omega|assumption) only[go_sem, *,pL] | (apply xs<;>intro _)<;>try omega | ((with_reducible refine b8 37 ?_);refine dw 306 37 X8 (by first | (simp only[go_sem, *];done)|rfl) (by kernel_rfl) (by kernel_rfl) ?_)|refine fun (_ _:List Nat)=>?_
 ·exact⟨_,_,(N1.sub (by simp) (by simp)).trans (Nz.set qi c1 (((S2.set (120,0) _ c1 lP).re lP).re lP)),M1.of fun a ha hb=>⟨rfl,au qJ⟩,aq⟩
 ·exact⟨_,_,(N1.sub (by simp) (by simp)).trans (Nz.set qi c1 ((S2.set (120,0) _ c1 lP).re lP)),M1.of fun a ha hb=>⟨rfl,au qJ⟩,aq⟩
theorem U0{a:Nat}{w t lk0:Int}(S:St h n d C)(M:qz d C W L k)(e1:C (104,0)=row [pt (d qM),pt jX,v1,v2,v3])(e2:C (120,0)=row (zM (d (104,0)) th x 0 0 5 w lk0 0 0 0))(gl:h.get jX=row (vL a0 a1 a2 a3 a4 a5 a6 a7 a8 a9 vJ wu zu zH zI EN EO EP ER ES ET q5 q6 a23 EU a25 a26 a27))(ht:0≤th∧th<64)(hx:1≤x∧x≤6)(h5:0≤q5∧q5≤100000)(h6:0≤q6∧q6≤100000)(hw:w.tmod 65536=t)(hta:1≤t∧t<65536)(hqa:q6+t-1=(a:Int))(ha:a<W.length)(hk:k≤100000):
  cE prog OB 153 [pt (d (120,0))] h n fun r h' n'=>∃ d' C',r=iU [U8 5,.bool false]∧Nz n d C ((120,0)::mB) [(103,0)] d' C' h' n'∧qz d' C' W (L++gU th a 1 W[a] W[a] false) (k+1)∧C' (120,0)=row (zM (d (104,0)) th x 0 0 6 w W[a] 0 0 0):=by
 have g1:=S.at e1;have g2:=S.at e2;have n1:=S.lt e1;have n2:=S.lt e2;have hl:=HE oQ S M hk ht ha;unfold zM at g2;unfold vL at gl;have Py:q6-1+t=(a:Int):=by omega
 generalize hx2:W[a]=y at*;refine ay (N:=306) func153 rfl rfl fun z hP hO hro hN hQ=>?_
 repeat' first|simp(disch:=first|omega|assumption) only[go_sem, *,pL] | (apply xs<;>intro _)<;>try omega | ((with_reducible refine b8 3 ?_);refine dw 306 3 abQ (by first | (simp only[go_sem, *];done)|rfl) (by kernel_rfl) (by kernel_rfl) ?_)|refine fun (_ _:List Nat)=>?_
 refine zc (hl) ?_;rintro r h2 n2 ⟨d1,C1,rfl,N1,M1⟩;have S2:=N1.st;have lP:=N1.dd (120,0) qi;have c1:=(N1.cc (120,0) qi).trans e2;have g5:=S2.at c1;rw[lP] at g5;unfold zM at g5;clear g1 g2 hl gl
 repeat' first|simp(disch:=first|omega|assumption) only[go_sem, *,pL] | (apply xs<;>intro _)<;>try omega | ((with_reducible refine b8 37 ?_);refine dw 306 37 X8 (by first | (simp only[go_sem, *];done)|rfl) (by kernel_rfl) (by kernel_rfl) ?_)|refine fun (_ _:List Nat)=>?_
 exact⟨_,_,(N1.sub (by simp) (by simp)).trans (Nz.set qi c1 ((S2.set (120,0) _ c1 lP).re lP)),M1.of fun a ha hb=>⟨rfl,au qJ⟩,aq⟩
theorem Z_{hd b t:Nat}{T:List Bool}{g:Int}(S:St h n d C)(M:qz d C W L k)(e1:C (104,0)=row [pt (d qM),pt jX,.slice (some ⟨d (105,0),0,none⟩) T.length T.length,v2,v3])(e3:C (105,0)=row (T.map .bool))(e2:C (120,0)=row (zM (d (104,0)) th x 0 0 6 ((t:Int)+65536*g) b 0 0 0))(gl:h.get jX=row (vL a0 a1 a2 a3 a4 a5 a6 a7 a8 a9 vJ wu zu zH zI EN EO EP ER ES ET q5 q6 a23 EU a25 a26 a27))(ht:0≤th∧th<64)(hx:1≤x∧x≤6)(h5:0≤q5∧q5≤100000)(h6:0≤q6∧q6≤100000)(hhd:q5+x-1=(hd:Int))(hh:hd<W.length)(hw:W[hd]=(t:Int)+65536*g)(hta:1≤t∧t<65536)(htT:t<T.length)(hg:0≤g∧g<1000000)(hb:b≤1024)(hk:k≤100000):
  cE prog OB 153 [pt (d (120,0))] h n fun r h' n'=>∃ d' C',r=iU [U8 6,.bool true]∧Nz n d C ((105,0)::(120,0)::mB) [(103,0)] d' C' h' n'∧qz d' C' (W.set hd ((b:Int)+65536*(g+1))) (L++gU th hd 4 ((t:Int)+65536*g) ((b:Int)+65536*(g+1)) true) (k+1)∧C' (120,0)=row (zM (d (104,0)) th x 0 0 0 ((t:Int)+65536*g) b t 0 0)∧C' (105,0)=row ((T.set t true).map .bool):=by
 have g1:=S.at e1;have g2:=S.at e2;have n1:=S.lt e1;have n2:=S.lt e2;have hl:=afY (x:=(b:Int)+65536*(g+1)) oQ S M hk ht hh hw;unfold zM at g2;unfold vL at gl;have hdv:=(wF (t:=(t:Int)) (g:=g) ⟨by omega,by omega⟩ hg.1);obtain⟨hdv,hmd⟩:=hdv;have htl:(T.map Value.bool).length=T.length:=List.length_map _;have hts:(T.map Value.bool).set t (.bool true)=(T.set t true).map .bool:=by rw[List.map_set]
 have ht3:(t:Int)<T.length:=by omega
 generalize hV:(t:Int)+65536*g=V at*;generalize hU:(b:Int)+65536*(g+1)=U at*;have hU2:0≤U∧U<18446744073709551616:=by omega
 have aF1:AJ [.int .u64 V]=some (.pure (.int .u64 g)):=by
  exact(if_pos (show 0≤V∧V<18446744073709551616 by omega)).trans (by rw[hdv])
 have aqG:AK [.int .u64 (g+1),.int .i64 (b:Int)]=some (.pure (.tuple ⟨[.int .u64 U,.int .i64 0]⟩)):=by
  exact(if_pos (show (0≤g+1∧g+1≤1099511627775)∧0≤(b:Int)∧(b:Int)≤1024 by omega)).trans (by rw[hU])
 refine ay (N:=306) func153 rfl rfl fun z hP hO hro hN hQ=>?_
 repeat' first|simp(disch:=first|omega|assumption) only[go_sem, *,pL] | (apply xs<;>intro _)<;>try omega | ((with_reducible refine b8 3 ?_);refine dw 306 3 abQ (by first | (simp only[go_sem, *];done)|rfl) (by kernel_rfl) (by kernel_rfl) ?_) | ((with_reducible refine b8 20 ?_);refine dw 306 20 aeJ (by first | (simp only[go_sem, *];done)|rfl) (by kernel_rfl) (by kernel_rfl) ?_) | ((with_reducible refine b8 21 ?_);refine dw 306 21 aeK (by first | (simp only[go_sem, *];done)|rfl) (by kernel_rfl) (by kernel_rfl) ?_)
 refine zc (hl) ?_;rintro r h2 n2 ⟨d1,C1,rfl,N1,M1⟩;intro rd wr;have S2:=N1.st;have lP:=N1.dd (120,0) qi;have dd4:=N1.dd (104,0) qi;have dd5:=N1.dd (105,0) qi;have c1:=(N1.cc (120,0) qi).trans e2;have c2:=(N1.cc (104,0) qi).trans e1;have c3:=(N1.cc (105,0) qi).trans e3;have g5:=S2.at c1;have g6:=S2.at c2;have g7:=S2.at c3;have d17:=S2.df c1 c3 qi;have d16:=S2.df c1 c2 qi;rw[lP] at g5 d17 d16;rw[dd4] at g6 d16;rw[dd5] at g7 d17;unfold zM at g5;clear g1 g2 hl gl
 repeat' first|simp(disch:=first|omega|assumption) only[go_sem, *,pL] | (apply xs<;>intro _)<;>try omega | ((with_reducible refine b8 37 ?_);refine dw 306 37 X8 (by first | (simp only[go_sem, *];done)|rfl) (by kernel_rfl) (by kernel_rfl) ?_)
 have T1:St _ n2 d1 (upd C1 (120,0) (row (zM (d (104,0)) th x 0 0 0 V b t 0 0))):=(S2.set (120,0) (.cells (PT.ofList .leaf 0 (zM (d (104,0)) th x 0 0 6 V b t 0 0)) false) c1 lP).re lP;exact⟨_,_,((N1.sub (by simp) (by simp)).trans (Nz.set qi c1 T1)).trans (Nz.set qi ((au qi).trans c3) (T1.set (105,0) _ ((au qi).trans c3) dd5)),(M1.of fun a ha hb=>⟨rfl,(au qJ).trans (au qJ)⟩),by rw[au qi,aq],aq⟩
end
end Go.Proofs.YtofmbmclopgldaaGreat
namespace Go.Proofs.YtofmbmclopgldaaGreat
open Go.Am Go.Proofs.Tryz
theorem jm.vl{P:List Rl}{d:Rl→Nat}{C:Rl→Option aj}{W:List Int}{L:List Value}{k:Nat}(M:jm d C W L k)(h:∀ r∈mA,r∈P):jm d (vl P C) W L k:=M.of fun a ha=>⟨rfl,pO (h _ (by
 have:a=0∨a=1∨a=2:=by omega
 rcases this with rfl|rfl|rfl<;>simp))⟩
theorem jm.from{P:List Rl}{d:Rl→Nat}{C C1:Rl→Option aj}{W:List Int}{L:List Value}{k:Nat}(M:jm d C1 W L k)(hC:∀ r∈P,C r=C1 r)(h:∀ r∈mA,r∈P):jm d C W L k:=M.of fun a ha=>⟨rfl,hC _ (h _ (by
 have:a=0∨a=1∨a=2:=by omega
 rcases this with rfl|rfl|rfl<;>simp))⟩
theorem Rf.acc{E:Ev}{W W':List Int}{L L':List Value}{k k':Nat}{K:List Int}{d d':Rl→Nat}{C C':Rl→Option aj}{h':PT aj}{n n':Nat}(R:Rf E W L k K d C)(N:Nz n d C mB [(103,0)] d' C' h' n')(M:qz d' C' W' L' k'):Rf E W' L' k' K d' C':=by
 obtain⟨m0,⟨pv,vv,m1⟩,m2,m3,m4,m5,m6,m7,m8,m9⟩:=R;have c:=fun a (ha:(a,0)∉mB)=>N.cc (a,0) ha;have dd:=fun a (ha:(a,0)∉[((103:Nat),(0:Nat))])=>N.dd (a,0) ha;refine⟨M,⟨pv,vv,?_⟩,?_,?_,?_,?_,?_,?_,?_,m9⟩
 ·rw[c 100 qi,m1,dd 101 qi,dd 104 qi,dd 108 qi,dd 109 qi,dd 110 qi]
 ·rw[c 104 qi,m2,dd 101 qi,dd 105 qi,dd 106 qi,dd 107 qi]
 ·rw[c 105 qi,m3]
 ·rw[c 106 qi,m4]
 ·rw[c 107 qi,m5]
 ·rw[c 108 qi,m6,dd 101 qi]
 ·rw[c 109 qi,m7]
 ·rw[c 110 qi,m8]
theorem nY{W:List Int}(hW:∀ x∈W,0≤x∧x<18446744073709551616){a:Nat}{v:Int}(hv:0≤v∧v<18446744073709551616):∀ x∈W.set a v,0≤x∧x<18446744073709551616:=fun x hx=>by
 rcases List.mem_or_eq_of_mem_set hx with h|rfl
 ·exact hW x h
 ·exact hv
def Sd.st(s:Sd)(th:Int)(a:Nat)(x:Int):Sd:=⟨s.W.set a x,s.L++gU th a 2 (vm s.W a) x false,s.k+1,s.K⟩
section
variable {E:Ev} {a b:Sd} {d:Rl→Nat} {C:Rl→Option aj} {h:PT aj} {n:Nat}
theorem Cv(T:Tw E a b d C h n)(hka:a.k≤90000)(hkb:b.k≤90000){th x:Int}{i:Nat}(ht:0≤th∧th<64)(hi:i<E.sz)(hx:0≤x∧x<18446744073709551616)(hp:i<E.p5∨E.p6+E.l.H.length≤i):
  cE prog OB 84 [two d,I6 th,I6 i,U6 x] h n fun v h' n'=>v = .bool true∧∃ d' C',Tw E (a.st th i x) (b.st th i x) d' C' h' n'∧Wo d C d' C':=by
 have U1:i<a.W.length:=by rw[T.la];exact hi
 have hib:i<b.W.length:=by rw[T.lb];exact hi
 obtain⟨stk,tag,X,xk,R,rk,M,B,Pk,I,EV⟩:=T.pg;obtain⟨⟨wc,q0⟩,-⟩:=T.rf.mem;obtain⟨pv,vv,qb⟩:=T.rf.base;refine ay (N:=26) func84 rfl rfl fun z hP hO hro hN hQ=>?_
 repeat' first|simp(disch:=try exact jh) only[go_sem, *] | (apply xs<;>intro _)<;>try omega
 obtain⟨d1,C1,N1,HJ,FB⟩:∃ d1 C1,Nz n d C [(90,0)] [(90,0)] d1 C1 (h.set n (row [pt (d (70,0)),pt (d qB)])) (n+1)∧d1 (90,0)=n∧C1 (90,0)=row [pt (d (70,0)),pt (d qB)]:=
  ⟨_,_,Nz.new qi (Nat.le_refl _) (Nat.le_succ _) (T.st.new (90,0) _ (Nat.le_refl _) (Nat.lt_succ_self _)),aq,aq⟩
 have T1:=T.own N1 qi qi;have d70:=N1.dd (70,0) qi;have dqb:=N1.dd qB qi;have dM:=N1.dd rM qi;have dqM:=N1.dd qM qi;have mV:=(N1.cc (70,0) qi).trans B.base;have bqb:=(N1.cc qB qi).trans qb;generalize h.set n _=h1 at*;have FA:=T1.st.at mV;have Lu:=T1.st.at bqb;have g90:=T1.st.at FB;rw[d70] at FA;rw[dqb] at Lu;rw[HJ] at g90;have M1:jm d1 C1 a.W a.L a.k:=M.fr N1.cc N1.dd qi qi;have st:=fun h1 s1=>(P3 (h:=h1) (n:=n+1) (x:=x) s1 (M1.vl (P:=mA) fun _ h=>h) qJ ht U1).mono (R':=fun v h' n'=>∃ d' C',Nz (n+1) d1 (vl mA C1) mA [(2,0)] d' C' h' n'∧v=I6 0∧jm d' C' (a.W.set i x) (a.L++gU th i 2 a.W[i] x false) (a.k+1)) fun v h' n' ⟨d',C',e,N,M⟩=>⟨d',C',N,e,M⟩;rw[dM] at st
 repeat' first|simp(disch:=try exact jh) only[go_sem, *,Ez] | (apply xs<;>intro _)<;>try omega | ((with_reducible refine b8 1 ?_);refine dw 26 1 aoU (by first | (simp only[go_sem, *];done)|rfl) (by kernel_rfl) (by kernel_rfl) ?_)
 refine lN mA T1.st st qi qi (by simp only[*]) (by simp only[*]) (by simp only[go_sem, *]) (by simp only[go_sem, *]) ?_;rintro v h2 n2 d2 C0 C2 N2 hC ⟨rfl,M2⟩ rd wr hme;have m90:=hme (d1 (90,0)) (T1.st.lt FB) (T1.st.off FB qi);have EW:=hme (d1 qB) (T1.st.lt bqb) (T1.st.off bqb qi);rw[HJ] at m90;rw[dqb] at EW;obtain⟨⟨m1,m2⟩,m3,m4⟩:=m90;obtain⟨⟨m5,m6⟩,m7,m8⟩:=EW;have arz:=(N2.cc (90,0) qi).trans FB;have arA:=(N2.cc qB qi).trans bqb;have Cw:=N2.st.at arz;have uz:=N2.st.at arA;rw[N2.dd (90,0) qi,HJ] at Cw;rw[N2.dd qB qi,dqb] at uz;have T2:Tw E (a.st th i x) b d2 C2 h2 n2:=T1.ZK (a':=a.st th i x) N2 qi qi (T1.pg.mem (by
   have:=M2.from (C:=C2) hC fun _ h=>h;rw[←iJ U1] at this;exact this) (fun r h1 h2 h3 h4=>⟨N2.dd r fun q=>by simp at q;exact h4 (by rw[q]),N2.cc r fun q=>by simp at q;rcases q with q |q |q<;>simp[q] at h2 h3 h4⟩) (N2.dd rM qi) (by simp[Sd.st]) (by simp[Sd.st]) fun j h1 h2=>by simp only[Sd.st];rw[List.getElem?_set_ne qJ])
   (by exact nY T.ua hx) (by simp[Sd.st];exact T.la)
 have hq:=wD (x:=x) oQ T2.st T2.rf.mem qJ ht hib;rw[N2.dd qM qi,dqM] at hq;have ltb:=T.st.lt qb;have r1:(n+1).ble (d qB)=false:=by rw[←Bool.not_eq_true,Nat.ble_eq];omega
 clear st FA Lu g90 hme M2
 repeat' first|simp(disch:=try exact jh) only[go_sem, *] | (apply xs<;>intro _)<;>try omega
 refine zc (hq) ?_;rintro v h3 n3 ⟨d3,C3,rfl,N3,M3⟩;intro RB RC
 repeat' first|simp(disch:=try exact jh) only[go_sem, *] | (apply xs<;>intro _)<;>try omega
 rw[←iJ hib] at M3;refine⟨d3,C3,T2.atB (b':=b.st th i x) N3 qi qi (T2.rf.acc N3 M3) (nY T.ub hx) (by simp[Sd.st];exact T.lb),?_⟩;exact((Wo.of N1 qi qi).trans (Wo.of N2 qi qi)).trans (Wo.of N3 qi qi)
end
end Go.Proofs.YtofmbmclopgldaaGreat
namespace Go.Proofs.YtofmbmclopgldaaGreat
open Go.Am Go.Proofs.Tryz
theorem _root_.Go.Am.St.take{h h':PT aj}{n n' b:Nat}{d:Rl→Nat}{C:Rl→Option aj}{B:aj}(S:St h n d C)(k:Kept h h')(w:bQ h' n')(r:Rl)(hb:n≤b)(e:h'.get b=some B):St h' n' (upd d r b) (upd C r (some B)):=by
 refine⟨fun s D q=>?_,fun s t q1 q2 q=>?_,w⟩
 ·unfold upd at q ⊢;split at q
  ·rename_i c;rw[if_pos c,e];exact q
  ·rename_i c;rw[if_neg c];exact k _ _ (S.get s D q)
 ·unfold upd at q q1 q2;by_cases c1:s=r
  ·by_cases c2:t=r
   ·rw[c1,c2]
   ·rw[if_pos c1,if_neg c2] at q;rw[if_neg c2] at q2;obtain⟨B',hB⟩:=Option.ne_none_iff_exists'.1 q2;have:=S.lt hB;omega
  ·by_cases c2:t=r
   ·rw[if_neg c1,if_pos c2] at q;rw[if_neg c1] at q1;obtain⟨B',hB⟩:=Option.ne_none_iff_exists'.1 q1;have:=S.lt hB;omega
   ·rw[if_neg c1,if_neg c2] at q;rw[if_neg c1] at q1;rw[if_neg c2] at q2;exact S.inj s t q1 q2 q
theorem Nz.take{h h':PT aj}{n n' b:Nat}{d:Rl→Nat}{C:Rl→Option aj}{B:aj}{t u:Nat}(S:St h n d C)(k:Kept h h')(w:bQ h' n')(hn:n≤n')(h9:t≠9999)(hb:n≤b)(e:h'.get b=some B):Nz n d C [(t,u)] [(t,u)] (upd d (t,u) b) (upd C (t,u) (some B)) h' n':=
 ⟨hn,S.take k w (t,u) hb e,fun h1 n2 q F=>F.new h9 qJ _,fun r hr=>bB fun q=>hr (q ▸ by simp),fun r hr=>bB fun q=>hr (q ▸ by simp)⟩
def rK(k:IntKind)(v:Value)(xs:List Int)(d:Rl→Nat)(C:Rl→Option aj)(r:Rl):Prop:=(v = .slice none 0 0∧xs=[])∨∃ c,v = .slice (some ⟨d r,0,none⟩) xs.length c∧C r=row (xs.map (.int k))
theorem aad{h:PT aj}{n:Nat}{d:Rl→Nat}{C:Rl→Option aj}{W:List Int}{L:List Value}{k hd mp:Nat}{lv p5 p6 ov gv:Value}{th w0 bl fl tr:Int}(S:St h n d C)(M:jm d C W L k)(e1:C (75,0)=row [pt (d rM),lv,p5,p6,ov,gv])(e2:C (80,0)=row (EH (d (75,0)) th 0 hd w0 4 mp bl fl tr 0))(e3:C (81,0)=some (.map (ef .u8 Xm) 3))(hmp:d (81,0)=mp)(ht:0≤th∧th<64)(hh:hd<W.length)(hk:k≤100000)(hw:0≤W[hd]∧W[hd]<18446744073709551616):
  cE prog OB 121 [pt (d (80,0))] h n fun r h' n'=>∃ d' C',r=iU [U8 4,.bool (decide (W[hd].tmod 65536=0))]∧Nz n d C ((80,0)::mA) [(2,0)] d' C' h' n'∧jm d' C' W (L++gU th hd 1 W[hd] W[hd] false) (k+1)∧C' (80,0)=row (if W[hd].tmod 65536=0 then EH (d (75,0)) th 0 hd W[hd] 0 mp bl fl tr 6 else EH (d (75,0)) th (W[hd].tmod 65536) hd W[hd] 5 mp bl fl tr 0):=by
 have g1:=S.at e1;have g2:=S.at e2;have g3:=S.at e3;have n1:=S.lt e1;have n2:=S.lt e2;have n3:=S.lt e3;have hl:=PZ S M hk ht hh;subst hmp;unfold EH at g2;generalize hx:W[hd]=x at*;have w1:=Int.tmod_nonneg (65536:Int) hw.1;have w2:=Int.tmod_lt_of_pos x (show (0:Int)<65536 by decide);refine ay (N:=24) func121 rfl rfl fun z hP hO hro hN hQ=>?_
 repeat' first|simp(disch:=first|omega|assumption) only[go_sem, *,Hw] | (apply xs<;>intro _)<;>try omega | ((with_reducible refine b8 0 ?_);refine dw 24 0 agi (by first | (simp only[go_sem, *];done)|rfl) (by kernel_rfl) (by kernel_rfl) ?_)|refine fun (_ _:List Nat)=>?_ | (first|refine bD func186 rfl ?_ ?_ ?_ ?_ |refine bD func233 rfl ?_ ?_ ?_ ?_ |refine bD func183 rfl ?_ ?_ ?_ ?_ |refine bD func229 rfl ?_ ?_ ?_ ?_ |fail)<;>intros
 refine zc (hl) ?_;rintro r h2 n2 ⟨d1,C1,rfl,N1,M1⟩;intro rd wr;have S2:=N1.st;have lP:=N1.dd (80,0) qi;have c1:=(N1.cc (80,0) qi).trans e2;have g5:=S2.at c1;rw[lP] at g5;unfold EH at g5;clear g1 g2 g3 hl
 repeat' first|simp(disch:=first|omega|assumption) only[go_sem, *,Hw] | (apply xs<;>intro _)<;>try omega | ((with_reducible refine b8 5 ?_);refine dw 24 5 abG (by first | (simp only[go_sem, *];done)|rfl) (by kernel_rfl) (by kernel_rfl) ?_)|refine fun (_ _:List Nat)=>?_
 ·exact⟨_,_,(N1.sub (by simp) (by simp)).trans (Nz.set qi c1 (((((S2.set (80,0) _ c1 lP).re lP).re lP).re lP).re lP)),M1.of fun a ha=>⟨rfl,au qJ⟩,aq⟩
 ·exact⟨_,_,(N1.sub (by simp) (by simp)).trans (Nz.set qi c1 (((S2.set (80,0) _ c1 lP).re lP).re lP)),M1.of fun a ha=>⟨rfl,au qJ⟩,aq⟩
theorem U2{h:PT aj}{n:Nat}{d:Rl→Nat}{C:Rl→Option aj}{W:List Int}{L:List Value}{k mp a:Nat}{lv p5 ov gv:Value}{th t q6 hd w0 bl fl tr:Int}(S:St h n d C)(M:jm d C W L k)(e1:C (75,0)=row [pt (d rM),lv,p5,I6 q6,ov,gv])(e2:C (80,0)=row (EH (d (75,0)) th t hd w0 5 mp bl fl tr 0))(e3:C (81,0)=some (.map (ef .u8 Xm) 3))(hmp:d (81,0)=mp)(ht:0≤th∧th<64)(h6:0≤q6∧q6<100000)(hta:1≤t∧t<65536)(hqa:q6+t-1=(a:Int))(ha:a<W.length)(hk:k≤100000)(hw:0≤W[a]∧W[a]<65536):
  cE prog OB 121 [pt (d (80,0))] h n fun r h' n'=>∃ d' C',r=iU [U8 5,.bool false]∧Nz n d C ((80,0)::mA) [(2,0)] d' C' h' n'∧jm d' C' W (L++gU th a 1 W[a] W[a] false) (k+1)∧C' (80,0)=row (EH (d (75,0)) th t hd w0 6 mp W[a] fl tr 0):=by
 have g1:=S.at e1;have g2:=S.at e2;have g3:=S.at e3;have n1:=S.lt e1;have n2:=S.lt e2;have n3:=S.lt e3;have hl:=PZ S M hk ht ha;subst hmp;unfold EH at g2;generalize hx:W[a]=x at*;refine ay (N:=24) func121 rfl rfl fun z hP hO hro hN hQ=>?_
 repeat' first|simp(disch:=first|omega|assumption) only[go_sem, *,yN] | (apply xs<;>intro _)<;>try omega | ((with_reducible refine b8 0 ?_);refine dw 39 0 aga (by first | (simp only[go_sem, *];done)|rfl) (by kernel_rfl) (by kernel_rfl) ?_)|refine fun (_ _:List Nat)=>?_ | (first|refine bD func186 rfl ?_ ?_ ?_ ?_ |refine bD func233 rfl ?_ ?_ ?_ ?_ |refine bD func184 rfl ?_ ?_ ?_ ?_ |fail)<;>intros
 refine zc (hl) ?_;rintro r h2 n2 ⟨d1,C1,rfl,N1,M1⟩;intro rd wr;have S2:=N1.st;have lP:=N1.dd (80,0) qi;have c1:=(N1.cc (80,0) qi).trans e2;have g5:=S2.at c1;rw[lP] at g5;unfold EH at g5;clear g1 g2 g3 hl
 repeat' first|simp(disch:=first|omega|assumption) only[go_sem, *,yN] | (apply xs<;>intro _)<;>try omega | ((with_reducible refine b8 5 ?_);refine dw 24 5 abG (by first | (simp only[go_sem, *];done)|rfl) (by kernel_rfl) (by kernel_rfl) ?_)|refine fun (_ _:List Nat)=>?_
 exact⟨_,_,(N1.sub (by simp) (by simp)).trans (Nz.set qi c1 ((S2.set (80,0) _ c1 lP).re lP)),M1.of fun a ha=>⟨rfl,au qJ⟩,aq⟩
theorem aae{h:PT aj}{n:Nat}{d:Rl→Nat}{C:Rl→Option aj}{W:List Int}{L:List Value}{k hd mp xk b:Nat}{X:List cK}{lv p5 p6 gv:Value}{th t fl tr g:Int}(S:St h n d C)(M:jm d C W L k)(e1:C (75,0)=row [pt (d rM),lv,p5,p6,.map (some (d (76,0))),gv])(e2:C (80,0)=row (EH (d (75,0)) th t hd (t+65536*g) 6 mp b fl tr 0))(e3:C (81,0)=some (.map (ef .u8 Xm) 3))(e4:C (76,0)=some (.map (ef .i64 X) xk))(hmp:d (81,0)=mp)(ht:0≤th∧th<64)(hh:hd<W.length)(hk:k≤100000)(hw:W[hd]=t+65536*g)(hta:1≤t∧t<65536)(hg:0≤g∧g<1099511627776)(hb:b≤1024)(hX:∀ e∈X,e.1≠t):
  cE prog OB 121 [pt (d (80,0))] h n fun r h' n'=>∃ d' C',r=iU [U8 6,.bool true]∧Nz n d C ((76,0)::(80,0)::mA) [(2,0)] d' C' h' n'∧jm d' C' (W.set hd ((b:Int)+65536*((g+1)%1099511627776))) (L++gU th hd 4 (t+65536*g) ((b:Int)+65536*((g+1)%1099511627776)) true) (k+1)∧C' (80,0)=row (EH (d (75,0)) th t hd (t+65536*g) 0 mp b fl tr 0)∧C' (76,0)=some (.map (ef .i64 (X++[(t,.bool false,xk)])) (xk+1)):=by
 have g1:=S.at e1;have g2:=S.at e2;have g3:=S.at e3;have g4:=S.at e4;have n1:=S.lt e1;have n2:=S.lt e2;have n3:=S.lt e3;have hl:=arh (x:=(b:Int)+65536*((g+1)%1099511627776)) S M hk ht hh hw;subst hmp;unfold EH at g2;have hdv:=(wF (t:=t) (g:=g) ⟨by omega,by omega⟩ hg.1).1;have han:(((BitVec.ofInt IntKind.u64.bits (g+1)&&&BitVec.ofInt IntKind.u64.bits 1099511627775).toNat:Nat):Int)=(g+1)%1099511627776:=af_ (x:=g+1) qJ qJ;have hmd:0≤(g+1)%1099511627776∧(g+1)%1099511627776<1099511627776:=by omega
 obtain⟨hm1,hm2⟩:=hmd;have hft:bW t X 0=none:=xU hX;generalize hgg:(g+1)%1099511627776=g' at*;simp(disch:=omega) only[go_sem] at han;refine ay (N:=24) func121 rfl rfl fun z hP hO hro hN hQ=>?_
 repeat' first|simp(disch:=first|omega|assumption) only[go_sem, *] | (apply xs<;>intro _)<;>try omega | ((with_reducible refine b8 0 ?_);refine dw 58 0 agd (by first | (simp only[go_sem, *];done)|rfl) (by kernel_rfl) (by kernel_rfl) ?_) | ((with_reducible refine b8 2 ?_);refine dw 46 2 agj (by first | (simp only[go_sem, *];done)|rfl) (by kernel_rfl) (by kernel_rfl) ?_)|refine fun (_ _:List Nat)=>?_ | (first|refine bD func186 rfl ?_ ?_ ?_ ?_ |refine bD func233 rfl ?_ ?_ ?_ ?_ |refine bD func185 rfl ?_ ?_ ?_ ?_ |refine bD func232 rfl ?_ ?_ ?_ ?_ |refine bD func250 rfl ?_ ?_ ?_ ?_ |refine bD func70 rfl ?_ ?_ ?_ ?_ |fail)<;>intros
 refine zc (hl) ?_;rintro r h2 n2 ⟨d1,C1,rfl,N1,M1⟩;intro rd wr;have S2:=N1.st;have lP:=N1.dd (80,0) qi;have dd5:=N1.dd (75,0) qi;have dd6:=N1.dd (76,0) qi;have c1:=(N1.cc (80,0) qi).trans e2;have c2:=(N1.cc (75,0) qi).trans e1;have c3:=(N1.cc (76,0) qi).trans e4;have g5:=S2.at c1;have g6:=S2.at c2;have g7:=S2.at c3;have d17:=S2.df c1 c3 qi;rw[lP] at g5 d17;rw[dd5] at g6;rw[dd6] at g7 d17;unfold EH at g5;clear g1 g2 g3 g4 hl
 repeat' first|simp(disch:=first|omega|assumption) only[go_sem, *] | (apply xs<;>intro _)<;>try omega | ((with_reducible refine b8 5 ?_);refine dw 24 5 abG (by first | (simp only[go_sem, *];done)|rfl) (by kernel_rfl) (by kernel_rfl) ?_) | ((with_reducible refine b8 1 ?_);refine dw 58 1 agf (by first | (simp only[go_sem, *];done)|rfl) (by kernel_rfl) (by kernel_rfl) ?_)|refine fun (_ _:List Nat)=>?_
 rw[Ap];have T1:=S2.set (76,0) (.map (ef .i64 (X++[(t,.bool false,xk)])) (xk+1)) c3 dd6;exact⟨_,_,((N1.sub (by simp) (by simp)).trans (Nz.set qi c3 T1)).trans (Nz.set qi ((au qi).trans c1) (T1.set (80,0) _ ((au qi).trans c1) lP)),(M1.of fun a ha=>⟨rfl,(au qJ).trans (au qJ)⟩),aq,by rw[au qi,aq]⟩
theorem tF.lay{E:Ev}(ok:tF E):∃ a0 a1 a2 a3 a4 a5 a6 a7 a8 a9 vJ wu zu zH zI EN EO EP ER ES ET a23 EU a25 a26 a27,E.S2=vL a0 a1 a2 a3 a4 a5 a6 a7 a8 a9 vJ wu zu zH zI EN EO EP ER ES ET E.p5 E.p6 a23 EU a25 a26 a27:=by
 obtain⟨a,b,c,e,f1,f2,f3,f4,f5,f6,g1,g2,g3,wv,hS⟩:=ok.s2;obtain⟨q0,q1,q2,q3,q4,q5,q6,q7,q8,hP⟩:=ok.num.PL;have e5:=ok.e5;have e6:=ok.e6;rw[hP] at e5 e6 hS;simp only[List.getD_cons_succ,List.getD_cons_zero] at e5 e6;rw[e5,e6] at hS;exact⟨_,_,_,_,_,_,_,_,_,_,_,_,_,_,_,_,_,_,_,_,_,_,_,_,_,_,hS⟩
theorem Rf.aaf{E:Ev}{W W':List Int}{L L':List Value}{k k':Nat}{K:List Int}{d d':Rl→Nat}{C C':Rl→Option aj}{h':PT aj}{n n':Nat}{X Y:List Rl}(R:Rf E W L k K d C)(N:Nz n d C X Y d' C' h' n')(M:qz d' C' W' L' k')(hX:∀ i,i=100∨(104≤i∧i≤110)→(i,0)∉X)(hY:∀ i,(i=100∨i=101)∨(104≤i∧i≤110)→(i,0)∉Y):Rf E W' L' k' K d' C':=by
 obtain⟨m0,⟨pv,vv,m1⟩,m2,m3,m4,m5,m6,m7,m8,m9⟩:=R;have c:=fun a ha=>N.cc (a,0) (hX a ha);have dd:=fun a ha=>N.dd (a,0) (hY a ha);refine⟨M,⟨pv,vv,?_⟩,?_,?_,?_,?_,?_,?_,?_,m9⟩
 ·rw[c 100 qJ,m1,dd 101 qJ,dd 104 qJ,dd 108 qJ,dd 109 qJ,dd 110 qJ]
 ·rw[c 104 qJ,m2,dd 101 qJ,dd 105 qJ,dd 106 qJ,dd 107 qJ]
 ·rw[c 105 qJ,m3]
 ·rw[c 106 qJ,m4]
 ·rw[c 107 qJ,m5]
 ·rw[c 108 qJ,m6,dd 101 qJ]
 ·rw[c 109 qJ,m7]
 ·rw[c 110 qJ,m8]
theorem tG{α:Type}{L:List α}{t:Nat}{x:α}(h:L[t]? = some x):L.set t x=L:=by
 apply List.ext_getElem?;intro i;rw[List.getElem?_set];split
 ·rename_i e;subst e;have:=(List.getElem?_eq_some_iff.1 h).1;rw[if_pos this,h]
 ·rfl
theorem getD_some{K:List Int}{t:Nat}{x:Int}(h:K.getD t 0=x)(ht:t<K.length):K[t]? = some x:=by
 rw[←h];simp[List.getD,ht]
theorem Rf.take{E:Ev}{W W':List Int}{L L':List Value}{k k' t:Nat}{K:List Int}{d d':Rl→Nat}{C C':Rl→Option aj}{h':PT aj}{n n':Nat}(R:Rf E W L k K d C)(N:Nz n d C ((105,0)::(120,0)::mB) [(103,0)] d' C' h' n')(M:qz d' C' W' L' k')(ht:t<K.length)(hK:K.getD t 0=0)(z:C' (105,0)=row (((CT K).set t true).map .bool)):Rf E W' L' k' (K.set t 1) d' C':=by
 obtain⟨m0,⟨pv,vv,m1⟩,m2,m3,m4,m5,m6,m7,m8,m9⟩:=R;have c:=fun a (ha:(a,0)∉((105,0)::(120,0)::mB:List Rl))=>N.cc (a,0) ha;have dd:=fun a (ha:(a,0)∉([(103,0)]:List Rl))=>N.dd (a,0) ha;have hl:(K.set t 1).length=K.length:=List.length_set;have e0:=getD_some hK ht;have h1:EM (K.set t 1)=EM K:=by
  unfold EM;rw[List.map_set];exact tG (by rw[List.getElem?_map,e0];rfl)
 have h2:Lt (K.set t 1)=Lt K:=by
  unfold Lt;rw[List.map_set];exact tG (by rw[List.getElem?_map,e0];rfl)
 have h3:CT (K.set t 1)=(CT K).set t true:=by unfold CT;rw[List.map_set];rfl
 refine⟨M,⟨pv,vv,?_⟩,?_,?_,?_,?_,?_,?_,?_,by rw[hl];exact m9⟩
 ·rw[hl,c 100 qi,m1,dd 101 qi,dd 104 qi,dd 108 qi,dd 109 qi,dd 110 qi]
 ·rw[hl,c 104 qi,m2,dd 101 qi,dd 105 qi,dd 106 qi,dd 107 qi]
 ·rw[h3,z]
 ·rw[hl,c 106 qi,m4]
 ·rw[hl,c 107 qi,m5]
 ·rw[c 108 qi,m6,dd 101 qi]
 ·rw[h1,c 109 qi,m7]
 ·rw[h2,c 110 qi,m8]
structure Hid(p:Prop):Prop where
 h:p
def iT(L L':List Value):Prop:=∃ A:List (Int×Int×Int×Int×Int×Bool),L'=L++A.flatMap fun x=>gU x.1 x.2.1 x.2.2.1 x.2.2.2.1 x.2.2.2.2.1 x.2.2.2.2.2
theorem iT.refl{L:List Value}:iT L L:=⟨[],by simp⟩
theorem iT.trans{L M N:List Value}(a:iT L M)(b:iT M N):iT L N:=by
 obtain⟨A,rfl⟩:=a;obtain⟨B,rfl⟩:=b;exact⟨A++B,by rw[List.flatMap_append,List.append_assoc]⟩
theorem iT.acc{L M:List Value}(a:iT L M){th k kd o x:Int}{sw:Bool}:iT L (M++gU th k kd o x sw):=a.trans ⟨[(th,k,kd,o,x,sw)],by simp⟩
structure Tk(E:Ev)(a:Sd)(x:Int)(t:Nat)(a':Sd):Prop where
 k:a'.k≤a.k+3
 le:a.k≤a'.k
 len:a'.W.length=a.W.length
 words:∀ i,i<E.p5∨E.p6≤i→a'.W[i]? = a.W[i]?
 kinds:a'.K=if t=0 then a.K else a.K.set t 1
 vh:t=0∨(1≤t∧t≤E.l.H.length∧E.l.H.getD (t-1) 0=x∧a.K.getD t 0=0)
 log:iT a.L a'.L
theorem cG:(true==true)=true:=rfl
theorem cH:(true==false)=false:=rfl
theorem cI:(false==true)=false:=rfl
theorem cJ:(false==false)=true:=rfl
section
variable {E:Ev} {a b:Sd} {d:Rl→Nat} {C:Rl→Option aj} {h:PT aj} {n:Nat}
theorem aag(T:Tw E a a d C h n)(hk:a.k≤90000){th:Int}{j:Nat}(ht:0≤th∧th<64)(hj:j<6):
  cE prog OB 75 [two d,I6 th,I6 ((j:Int)+1)] h n fun v h' n'=>∃ (t:Nat) (a':Sd) (d':Rl→Nat) (C':Rl→Option aj),v=iU [I6 t,.bool true]∧Tk E a ((j:Int)+1) t a'∧Tw E a' a' d' C' h' n'∧Wo d C d' C':=by
 obtain⟨stk,tag,X,xk,R,rk,M,B,Pk,I,EV⟩:=T.pg;obtain⟨pv,vv,qb⟩:=T.rf.base;obtain⟨a0,a1,a2,a3,a4,a5,a6,a7,a8,a9,vJ,wu,zu,zH,zI,EN,EO,EP,ER,ES,ET,a23,EU,a25,a26,a27,vH⟩:=T.ok.lay;have hp6:=T.ok.hp;have h56:=Pk.h6;have hh:=Pk.head j hj;have Qj:=Pk.tag j hj;have hlt:E.p5+j<a.W.length:=(List.getElem?_eq_some_iff.1 hh).1;have hv:a.W[E.p5+j]=Lj (stk j)+65536*tag j:=(List.getElem?_eq_some_iff.1 hh).2;have zJ:=EV j hj;refine ay (N:=95) func75 rfl rfl fun z hP hO hro hN hQ=>?_;obtain⟨d1,C1,N1,HJ,FB⟩:∃ d1 C1,Nz n d C [(90,0)] [(90,0)] d1 C1 (h.set n (row [pt (d (70,0)),pt (d qB)])) (n+1)∧d1 (90,0)=n∧C1 (90,0)=row [pt (d (70,0)),pt (d qB)]:=
  ⟨_,_,Nz.new qi (Nat.le_refl _) (Nat.le_succ _) (T.st.new (90,0) _ (Nat.le_refl _) (Nat.lt_succ_self _)),aq,aq⟩
 have FA:=T.st.at B.base;have n70:=T.st.lt B.base
 repeat' first|simp(disch:=first|omega|assumption) only[go_sem, *] | (apply xs<;>intro _)<;>try omega|refine fun (_ _:List Nat)=>?_
 have T1:=T.own N1 qi qi;have W1:Wo d C d1 C1:=Wo.of N1 qi qi;have b3:=(N1.cc (75,0) qi).trans B.pool;rw[T.ok.e5,T.ok.e6] at b3;have tk:=af9 T1.st b3 (th:=th) (x:=(j:Int)+1) ht ⟨by omega,by omega⟩ ⟨by omega,by omega⟩;rw[N1.dd (75,0) qi] at tk;generalize h.set n _=h1 at*;refine zc (tk) ?_;rintro r h2 n2 ⟨p,q,q1,q2,q3,rfl,S2⟩;obtain⟨d2,C2,N2,d80,c80,c81⟩:∃ d2 C2,Nz (n+1) d1 C1 [(80,0),(81,0)] [(80,0),(81,0)] d2 C2 h2 n2∧d2 (80,0)=p∧C2 (80,0)=row (EH (d (75,0)) th 0 (E.p5+((j:Int)+1)-1) 0 4 (d2 (81,0)) 0 0 0 0)∧C2 (81,0)=some (.map (ef .u8 Xm) 3):=
  ⟨_,_,⟨by omega,S2,fun h1 n1 c F=>(F.new (a:=80) qi qJ _).new (a:=81) qi qJ _,fun r hr=>by
   simp only[List.mem_cons,List.not_mem_nil,or_false,not_or] at hr;rw[bB hr.2,bB hr.1],fun r hr=>by
   simp only[List.mem_cons,List.not_mem_nil,or_false,not_or] at hr;rw[bB hr.2,bB hr.1]⟩,(au qi).trans aq,by rw[au qi,aq,aq],aq⟩
 have T2:=T1.own N2 qi qi;have W2:=W1.trans (Wo.of N2 qi qi);have U3:=(N2.cc (90,0) qi).trans FB;have Cw:=T2.st.at U3;rw[N2.dd (90,0) qi,HJ] at Cw;have HK:=(N2.cc qB qi).trans ((N1.cc qB qi).trans qb);have uz:=T2.st.at HK;rw[W2.b] at uz;subst d80;clear S2 tk FA n70
 repeat' first|simp(disch:=first|omega|assumption) only[go_sem, *] | (apply xs<;>intro _)<;>try omega|refine fun (_ _:List Nat)=>?_
 have rt:=Z9 (pb:=d (104,0)) T2.st (th:=th) (x:=(j:Int)+1) ht ⟨by omega,by omega⟩;refine zc (rt) ?_;rintro r h3 n3 ⟨d3,C3,rfl,N3,U4⟩;have T3:=T2.own N3 qi qi;have W3:=W2.trans (Wo.of N3 qi qi);have U5:=(N3.cc (80,0) qi).trans c80;have age:=(N3.cc (81,0) qi).trans c81;rw[←N3.dd (81,0) qi] at U5;rw[show (E.p5:Int)+((j:Int)+1)-1=((E.p5+j:Nat):Int) by omega] at U5;have d80:d3 (80,0)=d2 (80,0):=N3.dd (80,0) qi;have d75:d3 (75,0)=d (75,0):=(N3.dd (75,0) qi).trans ((N2.dd (75,0) qi).trans (N1.dd (75,0) qi));have d104:d3 (104,0)=d (104,0):=(N3.dd (104,0) qi).trans ((N2.dd (104,0) qi).trans (N1.dd (104,0) qi));rw[←d75] at U5;rw[←d104] at U4;rw[←d80];have pP:=T3.st.at U4;have N:=(N1.app N2).app N3;have M3:jm d3 C3 a.W a.L a.k:=M.fr N.cc N.dd qi qi;have fA:∀ i,i∈sA→d3 (i,0)=d (i,0)∧C3 (i,0)=C (i,0):=fun i hi=>⟨N.dd _ fun q=>by simp at q;rcases q with q |q |q |q<;>simp[q] at hi,N.cc _ fun q=>by simp at q;rcases q with q |q |q |q<;>simp[q] at hi⟩;have B3:=B.of2 fA;have R3:Rf E a.W a.L a.k a.K d3 C3:=T3.rf;have b75:=B3.pool;rw[T.ok.e5,T.ok.e6] at b75;have gl3:h3.get E.jX=row (vL a0 a1 a2 a3 a4 a5 a6 a7 a8 a9 vJ wu zu zH zI EN EO EP ER ES ET E.p5 E.p6 a23 EU a25 a26 a27):=by rw[←vH];exact(T3.fy.kept T3.st) _ _ T.ok.nX
 clear rt Cw uz HK U3 FB HJ N1 N2 T1 T2 b3 c80 c81 d75 d104 W1 W2 qb hh d80;unfold zM at pP;have Qk:=aad T3.st M3 b75 U5 age rfl ht hlt qJ (by
  rw[hv];have:=Qj.1;have:0≤Lj (stk j)∧Lj (stk j)≤1024:=by
   cases hs:stk j with
   |nil=>exact⟨Int.le_refl _,by decide⟩
   |cons t r=>have:=Pk.mem j t hj (by rw[hs];simp);have:=I.n1;simp only[Lj];omega
  omega)
 cases he:stk j with
 |nil=>
  have hz:(a.W[E.p5+j]).tmod 65536=0:=by
   rw[hv,he];exact(wF (t:=0) (g:=tag j) ⟨by omega,by omega⟩ Qj.1).2
  rw[if_pos hz,decide_eq_true hz] at Qk
  repeat' first|simp(disch:=first|omega|assumption) only[go_sem, *] | (apply xs<;>intro _)<;>try omega|refine fun (_ _:List Nat)=>?_
  rw[eR]
  repeat' first|simp(disch:=first|omega|assumption) only[go_sem, *] | (apply xs<;>intro _)<;>try omega|refine fun (_ _:List Nat)=>?_ | (first|refine bD func152 rfl ?_ ?_ ?_ ?_ |fail)<;>intros
  refine zc (Qk) ?_;rintro r h4 n4 ⟨d4,C4,rfl,N4,M4,y80⟩;have R4:Rf E a.W a.L a.k a.K d4 C4:=R3.of fun i h1 h2=>⟨N4.dd _ fun q=>by simp at q;omega,N4.cc _ fun q=>by simp at q;omega⟩;have F4:Fy E.hz E.nz d4 C4:=T3.fy.of fun i=>⟨N4.dd _ fun q=>by simp at q,N4.cc _ fun q=>by simp at q⟩;have gl4:h4.get E.jX=row (vL a0 a1 a2 a3 a4 a5 a6 a7 a8 a9 vJ wu zu zH zI EN EO EP ER ES ET E.p5 E.p6 a23 EU a25 a26 a27):=by rw[←vH];exact(F4.kept N4.st) _ _ T.ok.nX
  have uA:=(N4.cc (120,0) qi).trans U4;have d120:=N4.dd (120,0) qi;rw[←N4.dd (104,0) qi] at uA;have rs1:=Qh N4.st R4.mem R4.pool uA gl4 ht ⟨by omega,by omega⟩ ⟨by omega,by omega⟩ ⟨by omega,by omega⟩ (hd:=E.p5+j) qJ hlt qJ (by rw[hv,he];simp only[Lj];omega);rw[if_pos hz,decide_eq_true hz,d120] at rs1;clear Qk pP gl3
  repeat' first|simp(disch:=first|omega|assumption) only[go_sem, *] | (apply xs<;>intro _)<;>try omega|refine fun (_ _:List Nat)=>?_
  refine zc (rs1) ?_;rintro r h5 n5 ⟨d5,C5,rfl,N5,M5,Cx⟩;have pP:=N5.st.at Cx;rw[N5.dd (120,0) qi,d120] at pP;have z80:=(N5.cc (80,0) qi).trans y80;have k80:=N5.st.at z80;rw[N5.dd (80,0) qi,N4.dd (80,0) qi] at k80;unfold zM at pP;unfold EH at k80;clear rs1 gl4
  repeat' first|simp(disch:=first|omega|assumption) only[go_sem, *,cG,cH,cI,cJ] | (apply xs<;>intro _)<;>try omega|refine fun (_ _:List Nat)=>?_
  rw[eR]
  repeat' first|simp(disch:=first|omega|assumption) only[go_sem, *,cG,cH,cI,cJ] | (apply xs<;>intro _)<;>try omega | ((with_reducible refine b8 5 ?_);refine dw 26 5 acM (by first | (simp only[go_sem, *];done)|rfl) (by kernel_rfl) (by kernel_rfl) ?_) | ((with_reducible refine b8 5 ?_);refine dw 28 5 acJ (by first | (simp only[go_sem, *];done)|rfl) (by kernel_rfl) (by kernel_rfl) ?_)|refine fun (_ _:List Nat)=>?_ | (first|refine bD func152 rfl ?_ ?_ ?_ ?_ |refine bD func154 rfl ?_ ?_ ?_ ?_ |refine bD func122 rfl ?_ ?_ ?_ ?_ |fail)<;>intros
  have M5':jm d5 C5 a.W (a.L++gU th (E.p5+j:Nat) 1 a.W[E.p5+j] a.W[E.p5+j] false) (a.k+1):=M4.fr N5.cc N5.dd qi qi;have B5:=(B3.vp (N4.dd rM qi) fun i hi=>⟨N4.dd _ fun q=>by simp at q;omega,N4.cc _ fun q=>by simp at q;omega⟩).vp (N5.dd rM qi) fun i hi=>⟨N5.dd _ fun q=>by simp at q;omega,N5.cc _ fun q=>by simp at q;omega⟩;have R5:=R4.aaf N5 M5 (fun i hi q=>by simp at q;omega) (fun i hi q=>by simp at q;omega);have F5:Fy E.hz E.nz d5 C5:=F4.of fun i=>⟨N5.dd _ fun q=>by simp at q,N5.cc _ fun q=>by simp at q⟩;have l3:=T3.le;have l3':=T3.lz;have l4:=N4.le;have l5:=N5.le;refine⟨0,⟨a.W,_,a.k+1,a.K⟩,d5,C5,rfl,⟨by simp,by simp,rfl,fun _ _=>rfl,rfl,.inl rfl,by exact iT.refl.acc⟩,⟨T.ok,by omega,by omega,N5.st,N5.fz _ _ qJ (N4.fz _ _ l3 T3.fz),F5,⟨stk,tag,X,xk,R,rk,M5',B5,Pk,I,fun i hi=>by have:=EV i hi;simp only;omega⟩,R5,T.ua,T.ua,T.la,T.la⟩,(W3.trans (Wo.of N4 qi qi)).trans (Wo.of N5 qi qi)⟩
 |cons t r=>
  obtain⟨⟨ta1,ta2⟩,ta3⟩:(1≤t∧t≤E.l.H.length)∧E.l.H.getD (t-1) 0=(j:Int)+1:=by
   have:=Pk.mem j t hj (by rw[he];simp);exact⟨⟨this.1,this.2.1⟩,this.2.2⟩
  have hn1:=I.n1;have aaj:=Pk.link j hj;rw[he] at aaj hv;have pH:E.p6+t-1<a.W.length:=(List.getElem?_eq_some_iff.1 aaj.1).1;have Sz:a.W[E.p6+t-1]=Lj r:=(List.getElem?_eq_some_iff.1 aaj.1).2;obtain⟨b,hb,mT⟩:∃ b:Nat,Lj r=b∧b≤1024:=by
   cases r with
   |nil=>exact⟨0,rfl,by omega⟩
   |cons b r=>exact⟨b,rfl,by have:=(Pk.mem j b hj (by rw[he];simp)).2.1;omega⟩
  have hKt:=I.free j t hj (by rw[he];simp);have hna:∀ e∈X,e.1≠(t:Int):=fun e hm c=>by
   obtain⟨u,hu,_,_,h4⟩:=(I.out t).1 ⟨e,hm,c⟩;have:u=t:=by omega
   subst this;exact h4 hKt
  have K2:=Pk.take hj he (g:=tag j+1) qJ;have I2:=I.take hj he ⟨ta1,ta2⟩ (fun k hk=>Pk.nd k hk) fun k u hk hu c=>by
   subst c;have:=(Pk.mem k u hk hu).2.2;omega
  rw[hb] at Sz K2;have hv1:a.W[E.p5+j]=(t:Int)+65536*tag j:=hv;have hz:=(wF (t:=(t:Int)) (g:=tag j) ⟨by omega,by omega⟩ Qj.1).2;have hmod:(tag j+1)%1099511627776=tag j+1:=by omega
  have CP: ¬ (t:Int)=0:=by omega
  rw[hv1,hz,if_neg CP,decide_eq_false CP] at Qk;have F3:=T3.fy;clear hv
  repeat' first|simp(disch:=first|omega|assumption) only[go_sem, *,cG,cH,cI,cJ] | (apply xs<;>intro _)<;>try omega|refine fun (_ _:List Nat)=>?_
  rw[eR]
  repeat' first|simp(disch:=first|omega|assumption) only[go_sem, *,cG,cH,cI,cJ] | (apply xs<;>intro _)<;>try omega|refine fun (_ _:List Nat)=>?_ | (first|refine bD func152 rfl ?_ ?_ ?_ ?_ |fail)<;>intros
  refine zc (Qk) ?_;rintro r0 h4 n4 ⟨d4,C4,rfl,N4,M4,y80⟩;have R4:Rf E a.W a.L a.k a.K d4 C4:=R3.of fun i h1 h2=>⟨N4.dd _ fun q=>by simp at q;omega,N4.cc _ fun q=>by simp at q;omega⟩;have F4:Fy E.hz E.nz d4 C4:=F3.of fun i=>⟨N4.dd _ fun q=>by simp at q,N4.cc _ fun q=>by simp at q⟩;have gl4:h4.get E.jX=row (vL a0 a1 a2 a3 a4 a5 a6 a7 a8 a9 vJ wu zu zH zI EN EO EP ER ES ET E.p5 E.p6 a23 EU a25 a26 a27):=by rw[←vH];exact(F4.kept N4.st) _ _ T.ok.nX
  have uA:=(N4.cc (120,0) qi).trans U4;have d120:=N4.dd (120,0) qi;rw[←N4.dd (104,0) qi] at uA;have rs1:=Qh N4.st R4.mem R4.pool uA gl4 ht ⟨by omega,by omega⟩ ⟨by omega,by omega⟩ ⟨by omega,by omega⟩ (hd:=E.p5+j) qJ hlt qJ (by rw[hv1];omega);rw[hv1,hz,if_neg CP,decide_eq_false CP,d120] at rs1;clear Qk pP gl3 gl4
  repeat' first|simp(disch:=first|omega|assumption) only[go_sem, *,cG,cH,cI,cJ] | (apply xs<;>intro _)<;>try omega|refine fun (_ _:List Nat)=>?_
  refine zc (rs1) ?_;rintro r0 h5 n5 ⟨d5,C5,rfl,N5,M5,Cx⟩;have R5:=R4.aaf N5 M5 (fun i hi q=>by simp at q;omega) (fun i hi q=>by simp at q;omega);have F5:Fy E.hz E.nz d5 C5:=F4.of fun i=>⟨N5.dd _ fun q=>by simp at q,N5.cc _ fun q=>by simp at q⟩;have M5':jm d5 C5 _ _ _:=M4.fr N5.cc N5.dd qi qi;have B5:=(B3.vp (N4.dd rM qi) fun i hi=>⟨N4.dd _ fun q=>by simp at q;omega,N4.cc _ fun q=>by simp at q;omega⟩).vp (N5.dd rM qi) fun i hi=>⟨N5.dd _ fun q=>by simp at q;omega,N5.cc _ fun q=>by simp at q;omega⟩;have UO:=B5.pool;rw[T.ok.e5,T.ok.e6] at UO;have x80:=(N5.cc (80,0) qi).trans y80;have x81:=(N5.cc (81,0) qi).trans ((N4.cc (81,0) qi).trans age);have e75:d5 (75,0)=d3 (75,0):=(N5.dd (75,0) qi).trans (N4.dd (75,0) qi);have e81:d5 (81,0)=d3 (81,0):=(N5.dd (81,0) qi).trans (N4.dd (81,0) qi);have e80:d5 (80,0)=d3 (80,0):=(N5.dd (80,0) qi).trans (N4.dd (80,0) qi);have agk:d5 (120,0)=d3 (120,0):=(N5.dd (120,0) qi).trans d120;have arE:d5 (104,0)=d4 (104,0):=N5.dd (104,0) qi;rw[←e75,←e81] at x80;have st2:=U2 N5.st M5' UO x80 x81 rfl ht ⟨by omega,by omega⟩ ⟨by omega,by omega⟩ (a:=E.p6+t-1) qJ pH qJ (by rw[Sz];omega);rw[Sz,e80] at st2;have pP:=N5.st.at Cx;rw[agk] at pP;unfold zM at pP;clear rs1 uA d120
  repeat' first|simp(disch:=first|omega|assumption) only[go_sem, *,cG,cH,cI,cJ] | (apply xs<;>intro _)<;>try omega|refine fun (_ _:List Nat)=>?_
  rw[eR]
  repeat' first|simp(disch:=first|omega|assumption) only[go_sem, *,cG,cH,cI,cJ] | (apply xs<;>intro _)<;>try omega|refine fun (_ _:List Nat)=>?_ | (first|refine bD func152 rfl ?_ ?_ ?_ ?_ |fail)<;>intros
  refine zc (st2) ?_;rintro r0 h6 n6 ⟨d6,C6,rfl,N6,M6,y80⟩;have R6:Rf E a.W _ (a.k+1) a.K d6 C6:=R5.of fun i h1 h2=>⟨N6.dd _ fun q=>by simp at q;omega,N6.cc _ fun q=>by simp at q;omega⟩;have F6:Fy E.hz E.nz d6 C6:=F5.of fun i=>⟨N6.dd _ fun q=>by simp at q,N6.cc _ fun q=>by simp at q⟩;have gl6:h6.get E.jX=row (vL a0 a1 a2 a3 a4 a5 a6 a7 a8 a9 vJ wu zu zH zI EN EO EP ER ES ET E.p5 E.p6 a23 EU a25 a26 a27):=by rw[←vH];exact(F6.kept N6.st) _ _ T.ok.nX
  have uA:=(N6.cc (120,0) qi).trans Cx;have d120:d6 (120,0)=d3 (120,0):=(N6.dd (120,0) qi).trans agk;rw[←arE,←N6.dd (104,0) qi] at uA;have rs2:=U0 N6.st R6.mem R6.pool uA gl6 ht ⟨by omega,by omega⟩ ⟨by omega,by omega⟩ ⟨by omega,by omega⟩ hz ⟨by omega,by omega⟩ (a:=E.p6+t-1) qJ pH qJ;rw[Sz,d120] at rs2;clear st2 pP gl6
  repeat' first|simp(disch:=first|omega|assumption) only[go_sem, *,cG,cH,cI,cJ] | (apply xs<;>intro _)<;>try omega|refine fun (_ _:List Nat)=>?_
  refine zc (rs2) ?_;rintro r0 h7 n7 ⟨d7,C7,rfl,N7,M7,Cx⟩;have R7:=R6.aaf N7 M7 (fun i hi q=>by simp at q;omega) (fun i hi q=>by simp at q;omega);have F7:Fy E.hz E.nz d7 C7:=F6.of fun i=>⟨N7.dd _ fun q=>by simp at q,N7.cc _ fun q=>by simp at q⟩;have M7':jm d7 C7 _ _ _:=M6.fr N7.cc N7.dd qi qi;have B7:=(B5.vp (N6.dd rM qi) fun i hi=>⟨N6.dd _ fun q=>by simp at q;omega,N6.cc _ fun q=>by simp at q;omega⟩).vp (N7.dd rM qi) fun i hi=>⟨N7.dd _ fun q=>by simp at q;omega,N7.cc _ fun q=>by simp at q;omega⟩;have UO:=B7.pool;rw[T.ok.e5,T.ok.e6] at UO;have x80:=(N7.cc (80,0) qi).trans y80;have x81:=(N7.cc (81,0) qi).trans ((N6.cc (81,0) qi).trans x81);have f75:d7 (75,0)=d5 (75,0):=(N7.dd (75,0) qi).trans (N6.dd (75,0) qi);have f81:d7 (81,0)=d5 (81,0):=(N7.dd (81,0) qi).trans (N6.dd (81,0) qi);have f80:d7 (80,0)=d3 (80,0):=(N7.dd (80,0) qi).trans ((N6.dd (80,0) qi).trans e80);have f120:d7 (120,0)=d3 (120,0):=(N7.dd (120,0) qi).trans d120;have f104:d7 (104,0)=d6 (104,0):=N7.dd (104,0) qi;rw[←f75,←f81] at x80;have st3:=aae N7.st M7' UO x80 x81 B7.out rfl ht hlt qJ hv1 ⟨by omega,by omega⟩ Qj mT hna;rw[f80,hmod] at st3;have pP:=N7.st.at Cx;rw[f120] at pP;unfold zM at pP;clear rs2 uA d120
  repeat' first|simp(disch:=first|omega|assumption) only[go_sem, *,cG,cH,cI,cJ] | (apply xs<;>intro _)<;>try omega|refine fun (_ _:List Nat)=>?_
  rw[eR]
  repeat' first|simp(disch:=first|omega|assumption) only[go_sem, *,cG,cH,cI,cJ] | (apply xs<;>intro _)<;>try omega|refine fun (_ _:List Nat)=>?_ | (first|refine bD func152 rfl ?_ ?_ ?_ ?_ |fail)<;>intros
  refine zc (st3) ?_;rintro r0 h8 n8 ⟨d8,C8,rfl,N8,M8,y80,y76⟩;have R8:Rf E a.W _ (a.k+1+1) a.K d8 C8:=R7.of fun i h1 h2=>⟨N8.dd _ fun q=>by simp at q;omega,N8.cc _ fun q=>by simp at q;omega⟩;have F8:Fy E.hz E.nz d8 C8:=F7.of fun i=>⟨N8.dd _ fun q=>by simp at q,N8.cc _ fun q=>by simp at q⟩;have gl8:h8.get E.jX=row (vL a0 a1 a2 a3 a4 a5 a6 a7 a8 a9 vJ wu zu zH zI EN EO EP ER ES ET E.p5 E.p6 a23 EU a25 a26 a27):=by rw[←vH];exact(F8.kept N8.st) _ _ T.ok.nX
  have uA:=(N8.cc (120,0) qi).trans Cx;have d120:d8 (120,0)=d3 (120,0):=(N8.dd (120,0) qi).trans f120;rw[←f104,←N8.dd (104,0) qi] at uA;have hKl:=T.rf.len;have htl:(CT a.K).length=a.K.length:=List.length_map _;have rp:=R8.pool;rw[←htl] at rp;have rs3:=Z_ N8.st R8.mem rp R8.taken uA gl8 ht ⟨by omega,by omega⟩ ⟨by omega,by omega⟩ ⟨by omega,by omega⟩ (hd:=E.p5+j) qJ hlt hv1 ⟨by omega,by omega⟩ (by rw[htl];omega) ⟨Qj.1,by omega⟩ mT qJ;rw[d120] at rs3;clear st3 pP gl8
  repeat' first|simp(disch:=first|omega|assumption) only[go_sem, *,cG,cH,cI,cJ] | (apply xs<;>intro _)<;>try omega|refine fun (_ _:List Nat)=>?_
  refine zc (rs3) ?_;rintro r0 h9 n9 ⟨d9,C9,rfl,N9,M9,Cx,arJ⟩;have pP:=N9.st.at Cx;rw[N9.dd (120,0) qi,d120] at pP;have z80:=(N9.cc (80,0) qi).trans y80;have k80:=N9.st.at z80;rw[N9.dd (80,0) qi,N8.dd (80,0) qi,f80] at k80;unfold zM at pP;unfold EH at k80;clear rs3
  repeat' first|simp(disch:=first|omega|assumption) only[go_sem, *,cG,cH,cI,cJ] | (apply xs<;>intro _)<;>try omega|refine fun (_ _:List Nat)=>?_
  rw[eR]
  repeat' first|simp(disch:=first|omega|assumption) only[go_sem, *,cG,cH,cI,cJ] | (apply xs<;>intro _)<;>try omega | ((with_reducible refine b8 5 ?_);refine dw 26 5 acM (by first | (simp only[go_sem, *];done)|rfl) (by kernel_rfl) (by kernel_rfl) ?_) | ((with_reducible refine b8 5 ?_);refine dw 28 5 acJ (by first | (simp only[go_sem, *];done)|rfl) (by kernel_rfl) (by kernel_rfl) ?_)|refine fun (_ _:List Nat)=>?_ | (first|refine bD func152 rfl ?_ ?_ ?_ ?_ |refine bD func154 rfl ?_ ?_ ?_ ?_ |refine bD func122 rfl ?_ ?_ ?_ ?_ |fail)<;>intros
  have M9':jm d9 C9 _ _ _:=M8.fr N9.cc N9.dd qi qi;have B8:=B7.move (X':=X++[((t:Int),.bool false,xk)]) (xk':=xk+1) (N8.dd rM qi) (fun i c h1 h2 h3 h4 h5=>⟨N8.dd _ fun q=>by simp at q;omega,N8.cc _ fun q=>by simp at q;omega⟩) (N8.dd (76,0) qi) (N8.dd (77,0) qi) y76 ((N8.cc (77,0) qi).trans B7.Cn) rfl;have B9:=B8.vp (N9.dd rM qi) fun i hi=>⟨N9.dd _ fun q=>by simp at q;omega,N9.cc _ fun q=>by simp at q;omega⟩;have R9:=R8.take N9 M9 qJ hKt arJ;have F9:Fy E.hz E.nz d9 C9:=F8.of fun i=>⟨N9.dd _ fun q=>by simp at q,N9.cc _ fun q=>by simp at q⟩;have l3:=T3.le;have l3':=T3.lz;have l4:=N4.le;have l5:=N5.le;have l6:=N6.le;have l7:=N7.le;have l8:=N8.le;have l9:=N9.le;have hu:∀ x∈a.W.set (E.p5+j) ((b:Int)+65536*(tag j+1)),0≤x∧x<18446744073709551616:=nY T.ua qJ;refine⟨t,⟨a.W.set (E.p5+j) ((b:Int)+65536*(tag j+1)),_,a.k+1+1+1,a.K.set t 1⟩,d9,C9,rfl,⟨by simp only;omega,by simp only;omega,List.length_set,fun i hi=>?_,(if_neg qJ).symm,.inr ⟨ta1,ta2,ta3,hKt⟩,by exact iT.refl.acc.acc.acc⟩,⟨T.ok,by omega,by omega,N9.st,N9.fz _ _ qJ (N8.fz _ _ qJ (N7.fz _ _ qJ (N6.fz _ _ qJ (N5.fz _ _ qJ (N4.fz _ _ l3 T3.fz))))),F9,⟨_,_,_,_,R,rk,M9',B9,K2,I2,fun i hi=>?_⟩,R9,hu,hu,by simp only[List.length_set];exact T.la,by simp only[List.length_set];exact T.la⟩,
   (((((W3.trans (Wo.of N4 qi qi)).trans (Wo.of N5 qi qi)).trans (Wo.of N6 qi qi)).trans (Wo.of N7 qi qi)).trans (Wo.of N8 qi qi)).trans (Wo.of N9 qi qi)⟩
  ·exact List.getElem?_set_ne qJ
  ·have:=EV i hi;by_cases c:i=j
   ·subst c;rw[jU];simp only;omega
   ·rw[pM c];simp only;omega
end
end Go.Proofs.YtofmbmclopgldaaGreat
namespace Go.Proofs.YtofmbmclopgldaaGreat
open Go.Am
def mkV(g:Nat)(T:List Int):Value:=if T.length=0 then .slice none 0 0 else .slice (some ⟨g,0,none⟩) T.length (aA+1)
theorem tH{g:Nat}:mkV g [] = .slice none 0 0:=rfl
theorem fS{g:Nat}{T:List Int}(h:0<T.length):mkV g T = .slice (some ⟨g,0,none⟩) T.length (aA+1):=if_neg qJ
theorem tI{g:Nat}{T:List Int}{x:Int}:mkV g (T++[x]) = .slice (some ⟨g,0,none⟩) (T.length+1) (aA+1):=by rw[fS (by simp)];simp
end Go.Proofs.YtofmbmclopgldaaGreat
