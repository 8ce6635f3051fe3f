/-
A part.
-/
import Derived.Test.YtofmbmclopgldaaGreatSQ2
set_option linter.all false
set_option maxRecDepth 100000
set_option maxHeartbeats 16000000
namespace Go.Proofs.YtofmbmclopgldaaGreat
open Go.Am Go.Proofs.Tryz
theorem aad{h:PT aj}{n:Nat}{d:Rl→Nat}{C:Rl→Option aj}{W:List Int}{L:List Value}{k hd mp:Nat}{lv p5 p6 ov gv:Value}{th w0 bl fl tr:Int}(S:St h n d C)(M:jm d C W L k)(e1:C (75,0)=row [pt (d rM),lv,p5,p6,ov,gv])(e2:C (80,0)=row (EH (d (75,0)) th 0 hd w0 4 mp bl fl tr 0))(e3:C (81,0)=some (.map (ef .u8 Xm) 3))(hmp:d (81,0)=mp)(ht:0≤th∧th<64)(hh:hd<W.length)(hk:k≤100000)(hw:0≤W[hd]∧W[hd]<18446744073709551616):
  cE prog OB 121 [pt (d (80,0))] h n fun r h' n'=>∃ d' C',r=iU [U8 4,.bool (decide (W[hd].tmod 65536=0))]∧Nz n d C ((80,0)::mA) [(2,0)] d' C' h' n'∧jm d' C' W (L++gU th hd 1 W[hd] W[hd] false) (k+1)∧C' (80,0)=row (if W[hd].tmod 65536=0 then EH (d (75,0)) th 0 hd W[hd] 0 mp bl fl tr 6 else EH (d (75,0)) th (W[hd].tmod 65536) hd W[hd] 5 mp bl fl tr 0):=by
 have g1:=S.at e1;have g2:=S.at e2;have g3:=S.at e3;have n1:=S.lt e1;have n2:=S.lt e2;have n3:=S.lt e3;have hl:=PZ S M hk ht hh;subst hmp;unfold EH at g2;generalize hx:W[hd]=x at*;have w1:=Int.tmod_nonneg (65536:Int) hw.1;have w2:=Int.tmod_lt_of_pos x (show (0:Int)<65536 by decide);refine ay (N:=24) func121 rfl rfl fun z hP hO hro hN hQ=>?_
 repeat' first|simp(disch:=first|omega|assumption) only[go_sem, *,Hw] | (apply xs<;>intro _)<;>try omega | ((with_reducible refine b8 0 ?_);refine dw 24 0 agl (by first | (simp only[go_sem, *];done)|rfl) (by kernel_rfl) (by kernel_rfl) ?_)|refine fun (_ _:List Nat)=>?_ | (first|refine bD func186 rfl ?_ ?_ ?_ ?_ |refine bD func233 rfl ?_ ?_ ?_ ?_ |refine bD func183 rfl ?_ ?_ ?_ ?_ |refine bD func229 rfl ?_ ?_ ?_ ?_ |fail)<;>intros
 refine jg (hl) ?_;rintro r h2 n2 ⟨d1,C1,rfl,N1,M1⟩;intro rd wr;have S2:=N1.st;have lP:=N1.dd (80,0) qi;have c1:=(N1.cc (80,0) qi).trans e2;have g5:=S2.at c1;rw[lP] at g5;unfold EH at g5;clear g1 g2 g3 hl
 repeat' first|simp(disch:=first|omega|assumption) only[go_sem, *,Hw] | (apply xs<;>intro _)<;>try omega | ((with_reducible refine b8 5 ?_);refine dw 24 5 abV (by first | (simp only[go_sem, *];done)|rfl) (by kernel_rfl) (by kernel_rfl) ?_)|refine fun (_ _:List Nat)=>?_
 ·exact⟨_,_,(N1.sub (by simp) (by simp)).trans (Nz.set qi c1 (((((S2.set (80,0) _ c1 lP).re lP).re lP).re lP).re lP)),M1.of fun a ha=>⟨rfl,au qJ⟩,aq⟩
 ·exact⟨_,_,(N1.sub (by simp) (by simp)).trans (Nz.set qi c1 (((S2.set (80,0) _ c1 lP).re lP).re lP)),M1.of fun a ha=>⟨rfl,au qJ⟩,aq⟩
theorem U2{h:PT aj}{n:Nat}{d:Rl→Nat}{C:Rl→Option aj}{W:List Int}{L:List Value}{k mp a:Nat}{lv p5 ov gv:Value}{th t q6 hd w0 bl fl tr:Int}(S:St h n d C)(M:jm d C W L k)(e1:C (75,0)=row [pt (d rM),lv,p5,I6 q6,ov,gv])(e2:C (80,0)=row (EH (d (75,0)) th t hd w0 5 mp bl fl tr 0))(e3:C (81,0)=some (.map (ef .u8 Xm) 3))(hmp:d (81,0)=mp)(ht:0≤th∧th<64)(h6:0≤q6∧q6<100000)(hta:1≤t∧t<65536)(hqa:q6+t-1=(a:Int))(ha:a<W.length)(hk:k≤100000)(hw:0≤W[a]∧W[a]<65536):
  cE prog OB 121 [pt (d (80,0))] h n fun r h' n'=>∃ d' C',r=iU [U8 5,.bool false]∧Nz n d C ((80,0)::mA) [(2,0)] d' C' h' n'∧jm d' C' W (L++gU th a 1 W[a] W[a] false) (k+1)∧C' (80,0)=row (EH (d (75,0)) th t hd w0 6 mp W[a] fl tr 0):=by
 have g1:=S.at e1;have g2:=S.at e2;have g3:=S.at e3;have n1:=S.lt e1;have n2:=S.lt e2;have n3:=S.lt e3;have hl:=PZ S M hk ht ha;subst hmp;unfold EH at g2;generalize hx:W[a]=x at*;refine ay (N:=24) func121 rfl rfl fun z hP hO hro hN hQ=>?_
 repeat' first|simp(disch:=first|omega|assumption) only[go_sem, *,yN] | (apply xs<;>intro _)<;>try omega | ((with_reducible refine b8 0 ?_);refine dw 39 0 agf (by first | (simp only[go_sem, *];done)|rfl) (by kernel_rfl) (by kernel_rfl) ?_)|refine fun (_ _:List Nat)=>?_ | (first|refine bD func186 rfl ?_ ?_ ?_ ?_ |refine bD func233 rfl ?_ ?_ ?_ ?_ |refine bD func184 rfl ?_ ?_ ?_ ?_ |fail)<;>intros
 refine jg (hl) ?_;rintro r h2 n2 ⟨d1,C1,rfl,N1,M1⟩;intro rd wr;have S2:=N1.st;have lP:=N1.dd (80,0) qi;have c1:=(N1.cc (80,0) qi).trans e2;have g5:=S2.at c1;rw[lP] at g5;unfold EH at g5;clear g1 g2 g3 hl
 repeat' first|simp(disch:=first|omega|assumption) only[go_sem, *,yN] | (apply xs<;>intro _)<;>try omega | ((with_reducible refine b8 5 ?_);refine dw 24 5 abV (by first | (simp only[go_sem, *];done)|rfl) (by kernel_rfl) (by kernel_rfl) ?_)|refine fun (_ _:List Nat)=>?_
 exact⟨_,_,(N1.sub (by simp) (by simp)).trans (Nz.set qi c1 ((S2.set (80,0) _ c1 lP).re lP)),M1.of fun a ha=>⟨rfl,au qJ⟩,aq⟩
theorem aae{h:PT aj}{n:Nat}{d:Rl→Nat}{C:Rl→Option aj}{W:List Int}{L:List Value}{k hd mp xk b:Nat}{X:List cK}{lv p5 p6 gv:Value}{th t fl tr g:Int}(S:St h n d C)(M:jm d C W L k)(e1:C (75,0)=row [pt (d rM),lv,p5,p6,.map (some (d (76,0))),gv])(e2:C (80,0)=row (EH (d (75,0)) th t hd (t+65536*g) 6 mp b fl tr 0))(e3:C (81,0)=some (.map (ef .u8 Xm) 3))(e4:C (76,0)=some (.map (ef .i64 X) xk))(hmp:d (81,0)=mp)(ht:0≤th∧th<64)(hh:hd<W.length)(hk:k≤100000)(hw:W[hd]=t+65536*g)(hta:1≤t∧t<65536)(hg:0≤g∧g<1099511627776)(hb:b≤1024)(hX:∀ e∈X,e.1≠t):
  cE prog OB 121 [pt (d (80,0))] h n fun r h' n'=>∃ d' C',r=iU [U8 6,.bool true]∧Nz n d C ((76,0)::(80,0)::mA) [(2,0)] d' C' h' n'∧jm d' C' (W.set hd ((b:Int)+65536*((g+1)%1099511627776))) (L++gU th hd 4 (t+65536*g) ((b:Int)+65536*((g+1)%1099511627776)) true) (k+1)∧C' (80,0)=row (EH (d (75,0)) th t hd (t+65536*g) 0 mp b fl tr 0)∧C' (76,0)=some (.map (ef .i64 (X++[(t,.bool false,xk)])) (xk+1)):=by
 have g1:=S.at e1;have g2:=S.at e2;have g3:=S.at e3;have g4:=S.at e4;have n1:=S.lt e1;have n2:=S.lt e2;have n3:=S.lt e3;have hl:=arh (x:=(b:Int)+65536*((g+1)%1099511627776)) S M hk ht hh hw;subst hmp;unfold EH at g2;have hdv:=(wF (t:=t) (g:=g) ⟨by omega,by omega⟩ hg.1).1;have han:(((BitVec.ofInt IntKind.u64.bits (g+1)&&&BitVec.ofInt IntKind.u64.bits 1099511627775).toNat:Nat):Int)=(g+1)%1099511627776:=af_ (x:=g+1) qJ qJ;have hmd:0≤(g+1)%1099511627776∧(g+1)%1099511627776<1099511627776:=by omega
 obtain⟨hm1,hm2⟩:=hmd;have hft:bW t X 0=none:=xU hX;generalize hgg:(g+1)%1099511627776=g' at*;simp(disch:=omega) only[go_sem] at han;refine ay (N:=24) func121 rfl rfl fun z hP hO hro hN hQ=>?_
 repeat' first|simp(disch:=first|omega|assumption) only[go_sem, *] | (apply xs<;>intro _)<;>try omega | ((with_reducible refine b8 0 ?_);refine dw 58 0 agh (by first | (simp only[go_sem, *];done)|rfl) (by kernel_rfl) (by kernel_rfl) ?_) | ((with_reducible refine b8 2 ?_);refine dw 46 2 agn (by first | (simp only[go_sem, *];done)|rfl) (by kernel_rfl) (by kernel_rfl) ?_)|refine fun (_ _:List Nat)=>?_ | (first|refine bD func186 rfl ?_ ?_ ?_ ?_ |refine bD func233 rfl ?_ ?_ ?_ ?_ |refine bD func185 rfl ?_ ?_ ?_ ?_ |refine bD func232 rfl ?_ ?_ ?_ ?_ |refine bD func250 rfl ?_ ?_ ?_ ?_ |refine bD func70 rfl ?_ ?_ ?_ ?_ |fail)<;>intros
 refine jg (hl) ?_;rintro r h2 n2 ⟨d1,C1,rfl,N1,M1⟩;intro rd wr;have S2:=N1.st;have lP:=N1.dd (80,0) qi;have dd5:=N1.dd (75,0) qi;have dd6:=N1.dd (76,0) qi;have c1:=(N1.cc (80,0) qi).trans e2;have c2:=(N1.cc (75,0) qi).trans e1;have c3:=(N1.cc (76,0) qi).trans e4;have g5:=S2.at c1;have g6:=S2.at c2;have g7:=S2.at c3;have d17:=S2.df c1 c3 qi;rw[lP] at g5 d17;rw[dd5] at g6;rw[dd6] at g7 d17;unfold EH at g5;clear g1 g2 g3 g4 hl
 repeat' first|simp(disch:=first|omega|assumption) only[go_sem, *] | (apply xs<;>intro _)<;>try omega | ((with_reducible refine b8 5 ?_);refine dw 24 5 abV (by first | (simp only[go_sem, *];done)|rfl) (by kernel_rfl) (by kernel_rfl) ?_) | ((with_reducible refine b8 1 ?_);refine dw 58 1 agi (by first | (simp only[go_sem, *];done)|rfl) (by kernel_rfl) (by kernel_rfl) ?_)|refine fun (_ _:List Nat)=>?_
 rw[Ap];have T1:=S2.set (76,0) (.map (ef .i64 (X++[(t,.bool false,xk)])) (xk+1)) c3 dd6;exact⟨_,_,((N1.sub (by simp) (by simp)).trans (Nz.set qi c3 T1)).trans (Nz.set qi ((au qi).trans c1) (T1.set (80,0) _ ((au qi).trans c1) lP)),(M1.of fun a ha=>⟨rfl,(au qJ).trans (au qJ)⟩),aq,by rw[au qi,aq]⟩
theorem tF.lay{E:Ev}(ok:tF E):∃ a0 a1 a2 a3 a4 a5 a6 a7 a8 a9 vJ wu zu zH zI EN EO EP ER ES ET a23 EU a25 a26 a27,E.S2=vL a0 a1 a2 a3 a4 a5 a6 a7 a8 a9 vJ wu zu zH zI EN EO EP ER ES ET E.p5 E.p6 a23 EU a25 a26 a27:=by
 obtain⟨a,b,c,e,f1,f2,f3,f4,f5,f6,g1,g2,g3,wv,hS⟩:=ok.s2;obtain⟨q0,q1,q2,q3,q4,q5,q6,q7,q8,hP⟩:=ok.num.PL;have e5:=ok.e5;have e6:=ok.e6;rw[hP] at e5 e6 hS;simp only[List.getD_cons_succ,List.getD_cons_zero] at e5 e6;rw[e5,e6] at hS;exact⟨_,_,_,_,_,_,_,_,_,_,_,_,_,_,_,_,_,_,_,_,_,_,_,_,_,_,hS⟩
theorem Rf.aaf{E:Ev}{W W':List Int}{L L':List Value}{k k':Nat}{K:List Int}{d d':Rl→Nat}{C C':Rl→Option aj}{h':PT aj}{n n':Nat}{X Y:List Rl}(R:Rf E W L k K d C)(N:Nz n d C X Y d' C' h' n')(M:qz d' C' W' L' k')(hX:∀ i,i=100∨(104≤i∧i≤110)→(i,0)∉X)(hY:∀ i,(i=100∨i=101)∨(104≤i∧i≤110)→(i,0)∉Y):Rf E W' L' k' K d' C':=by
 obtain⟨m0,⟨pv,vv,m1⟩,m2,m3,m4,m5,m6,m7,m8,m9⟩:=R;have c:=fun a ha=>N.cc (a,0) (hX a ha);have dd:=fun a ha=>N.dd (a,0) (hY a ha);refine⟨M,⟨pv,vv,?_⟩,?_,?_,?_,?_,?_,?_,?_,m9⟩
 ·rw[c 100 qJ,m1,dd 101 qJ,dd 104 qJ,dd 108 qJ,dd 109 qJ,dd 110 qJ]
 ·rw[c 104 qJ,m2,dd 101 qJ,dd 105 qJ,dd 106 qJ,dd 107 qJ]
 ·rw[c 105 qJ,m3]
 ·rw[c 106 qJ,m4]
 ·rw[c 107 qJ,m5]
 ·rw[c 108 qJ,m6,dd 101 qJ]
 ·rw[c 109 qJ,m7]
 ·rw[c 110 qJ,m8]
theorem tG{α:Type}{L:List α}{t:Nat}{x:α}(h:L[t]? = some x):L.set t x=L:=by
 apply List.ext_getElem?;intro i;rw[List.getElem?_set];split
 ·rename_i e;subst e;have:=(List.getElem?_eq_some_iff.1 h).1;rw[if_pos this,h]
 ·rfl
theorem getD_some{K:List Int}{t:Nat}{x:Int}(h:K.getD t 0=x)(ht:t<K.length):K[t]? = some x:=by
 rw[←h];simp[List.getD,ht]
theorem Rf.take{E:Ev}{W W':List Int}{L L':List Value}{k k' t:Nat}{K:List Int}{d d':Rl→Nat}{C C':Rl→Option aj}{h':PT aj}{n n':Nat}(R:Rf E W L k K d C)(N:Nz n d C ((105,0)::(120,0)::mB) [(103,0)] d' C' h' n')(M:qz d' C' W' L' k')(ht:t<K.length)(hK:K.getD t 0=0)(z:C' (105,0)=row (((CT K).set t true).map .bool)):Rf E W' L' k' (K.set t 1) d' C':=by
 obtain⟨m0,⟨pv,vv,m1⟩,m2,m3,m4,m5,m6,m7,m8,m9⟩:=R;have c:=fun a (ha:(a,0)∉((105,0)::(120,0)::mB:List Rl))=>N.cc (a,0) ha;have dd:=fun a (ha:(a,0)∉([(103,0)]:List Rl))=>N.dd (a,0) ha;have hl:(K.set t 1).length=K.length:=List.length_set;have e0:=getD_some hK ht;have h1:EM (K.set t 1)=EM K:=by
  unfold EM;rw[List.map_set];exact tG (by rw[List.getElem?_map,e0];rfl)
 have h2:Lt (K.set t 1)=Lt K:=by
  unfold Lt;rw[List.map_set];exact tG (by rw[List.getElem?_map,e0];rfl)
 have h3:CT (K.set t 1)=(CT K).set t true:=by unfold CT;rw[List.map_set];rfl
 refine⟨M,⟨pv,vv,?_⟩,?_,?_,?_,?_,?_,?_,?_,by rw[hl];exact m9⟩
 ·rw[hl,c 100 qi,m1,dd 101 qi,dd 104 qi,dd 108 qi,dd 109 qi,dd 110 qi]
 ·rw[hl,c 104 qi,m2,dd 101 qi,dd 105 qi,dd 106 qi,dd 107 qi]
 ·rw[h3,z]
 ·rw[hl,c 106 qi,m4]
 ·rw[hl,c 107 qi,m5]
 ·rw[c 108 qi,m6,dd 101 qi]
 ·rw[h1,c 109 qi,m7]
 ·rw[h2,c 110 qi,m8]
structure Hid(p:Prop):Prop where
 h:p
def iT(L L':List Value):Prop:=∃ A:List (Int×Int×Int×Int×Int×Bool),L'=L++A.flatMap fun x=>gU x.1 x.2.1 x.2.2.1 x.2.2.2.1 x.2.2.2.2.1 x.2.2.2.2.2
theorem iT.refl{L:List Value}:iT L L:=⟨[],by simp⟩
theorem iT.trans{L M N:List Value}(a:iT L M)(b:iT M N):iT L N:=by
 obtain⟨A,rfl⟩:=a;obtain⟨B,rfl⟩:=b;exact⟨A++B,by rw[List.flatMap_append,List.append_assoc]⟩
theorem iT.acc{L M:List Value}(a:iT L M){th k kd o x:Int}{sw:Bool}:iT L (M++gU th k kd o x sw):=a.trans ⟨[(th,k,kd,o,x,sw)],by simp⟩
structure Tk(E:Ev)(a:Sd)(x:Int)(t:Nat)(a':Sd):Prop where
 k:a'.k≤a.k+3
 le:a.k≤a'.k
 len:a'.W.length=a.W.length
 words:∀ i,i<E.p5∨E.p6≤i→a'.W[i]? = a.W[i]?
 kinds:a'.K=if t=0 then a.K else a.K.set t 1
 vh:t=0∨(1≤t∧t≤E.l.H.length∧E.l.H.getD (t-1) 0=x∧a.K.getD t 0=0)
 log:iT a.L a'.L
theorem cG:(true==true)=true:=rfl
theorem cH:(true==false)=false:=rfl
theorem cI:(false==true)=false:=rfl
theorem cJ:(false==false)=true:=rfl
section
variable {E:Ev} {a b:Sd} {d:Rl→Nat} {C:Rl→Option aj} {h:PT aj} {n:Nat}
theorem aag(T:Tw E a a d C h n)(hk:a.k≤90000){th:Int}{j:Nat}(ht:0≤th∧th<64)(hj:j<6):
  cE prog OB 75 [two d,I6 th,I6 ((j:Int)+1)] h n fun v h' n'=>∃ (t:Nat) (a':Sd) (d':Rl→Nat) (C':Rl→Option aj),v=iU [I6 t,.bool true]∧Tk E a ((j:Int)+1) t a'∧Tw E a' a' d' C' h' n'∧Wo d C d' C':=by
 obtain⟨stk,tag,X,xk,R,rk,M,B,Pk,I,EV⟩:=T.pg;obtain⟨pv,vv,qb⟩:=T.rf.base;obtain⟨a0,a1,a2,a3,a4,a5,a6,a7,a8,a9,vJ,wu,zu,zH,zI,EN,EO,EP,ER,ES,ET,a23,EU,a25,a26,a27,vH⟩:=T.ok.lay;have hp6:=T.ok.hp;have h56:=Pk.h6;have hh:=Pk.head j hj;have Qj:=Pk.tag j hj;have hlt:E.p5+j<a.W.length:=(List.getElem?_eq_some_iff.1 hh).1;have hv:a.W[E.p5+j]=Lj (stk j)+65536*tag j:=(List.getElem?_eq_some_iff.1 hh).2;have zJ:=EV j hj;refine ay (N:=95) func75 rfl rfl fun z hP hO hro hN hQ=>?_;obtain⟨d1,C1,N1,HJ,FB⟩:∃ d1 C1,Nz n d C [(90,0)] [(90,0)] d1 C1 (h.set n (row [pt (d (70,0)),pt (d qB)])) (n+1)∧d1 (90,0)=n∧C1 (90,0)=row [pt (d (70,0)),pt (d qB)]:=
  ⟨_,_,Nz.new qi (Nat.le_refl _) (Nat.le_succ _) (T.st.new (90,0) _ (Nat.le_refl _) (Nat.lt_succ_self _)),aq,aq⟩
 have FA:=T.st.at B.base;have n70:=T.st.lt B.base
 repeat' first|simp(disch:=first|omega|assumption) only[go_sem, *] | (apply xs<;>intro _)<;>try omega|refine fun (_ _:List Nat)=>?_
 have T1:=T.own N1 qi qi;have W1:Wo d C d1 C1:=Wo.of N1 qi qi;have b3:=(N1.cc (75,0) qi).trans B.pool;rw[T.ok.e5,T.ok.e6] at b3;have tk:=af9 T1.st b3 (th:=th) (x:=(j:Int)+1) ht ⟨by omega,by omega⟩ ⟨by omega,by omega⟩;rw[N1.dd (75,0) qi] at tk;generalize h.set n _=h1 at*;refine jg (tk) ?_;rintro r h2 n2 ⟨p,q,q1,q2,q3,rfl,S2⟩;obtain⟨d2,C2,N2,d80,c80,c81⟩:∃ d2 C2,Nz (n+1) d1 C1 [(80,0),(81,0)] [(80,0),(81,0)] d2 C2 h2 n2∧d2 (80,0)=p∧C2 (80,0)=row (EH (d (75,0)) th 0 (E.p5+((j:Int)+1)-1) 0 4 (d2 (81,0)) 0 0 0 0)∧C2 (81,0)=some (.map (ef .u8 Xm) 3):=
  ⟨_,_,⟨by omega,S2,fun h1 n1 c F=>(F.new (a:=80) qi qJ _).new (a:=81) qi qJ _,fun r hr=>by
   simp only[List.mem_cons,List.not_mem_nil,or_false,not_or] at hr;rw[bB hr.2,bB hr.1],fun r hr=>by
   simp only[List.mem_cons,List.not_mem_nil,or_false,not_or] at hr;rw[bB hr.2,bB hr.1]⟩,(au qi).trans aq,by rw[au qi,aq,aq],aq⟩
 have T2:=T1.own N2 qi qi;have W2:=W1.trans (Wo.of N2 qi qi);have U3:=(N2.cc (90,0) qi).trans FB;have Cw:=T2.st.at U3;rw[N2.dd (90,0) qi,HJ] at Cw;have HK:=(N2.cc qB qi).trans ((N1.cc qB qi).trans qb);have uz:=T2.st.at HK;rw[W2.b] at uz;subst d80;clear S2 tk FA n70
 repeat' first|simp(disch:=first|omega|assumption) only[go_sem, *] | (apply xs<;>intro _)<;>try omega|refine fun (_ _:List Nat)=>?_
 have rt:=Z9 (pb:=d (104,0)) T2.st (th:=th) (x:=(j:Int)+1) ht ⟨by omega,by omega⟩;refine jg (rt) ?_;rintro r h3 n3 ⟨d3,C3,rfl,N3,U4⟩;have T3:=T2.own N3 qi qi;have W3:=W2.trans (Wo.of N3 qi qi);have U5:=(N3.cc (80,0) qi).trans c80;have age:=(N3.cc (81,0) qi).trans c81;rw[←N3.dd (81,0) qi] at U5;rw[show (E.p5:Int)+((j:Int)+1)-1=((E.p5+j:Nat):Int) by omega] at U5;have d80:d3 (80,0)=d2 (80,0):=N3.dd (80,0) qi;have d75:d3 (75,0)=d (75,0):=(N3.dd (75,0) qi).trans ((N2.dd (75,0) qi).trans (N1.dd (75,0) qi));have d104:d3 (104,0)=d (104,0):=(N3.dd (104,0) qi).trans ((N2.dd (104,0) qi).trans (N1.dd (104,0) qi));rw[←d75] at U5;rw[←d104] at U4;rw[←d80];have pP:=T3.st.at U4;have N:=(N1.app N2).app N3;have M3:jm d3 C3 a.W a.L a.k:=M.fr N.cc N.dd qi qi;have fA:∀ i,i∈sA→d3 (i,0)=d (i,0)∧C3 (i,0)=C (i,0):=fun i hi=>⟨N.dd _ fun q=>by simp at q;rcases q with q |q |q |q<;>simp[q] at hi,N.cc _ fun q=>by simp at q;rcases q with q |q |q |q<;>simp[q] at hi⟩;have B3:=B.of2 fA;have R3:Rf E a.W a.L a.k a.K d3 C3:=T3.rf;have b75:=B3.pool;rw[T.ok.e5,T.ok.e6] at b75;have gl3:h3.get E.jX=row (vL a0 a1 a2 a3 a4 a5 a6 a7 a8 a9 vJ wu zu zH zI EN EO EP ER ES ET E.p5 E.p6 a23 EU a25 a26 a27):=by rw[←vH];exact(T3.fy.kept T3.st) _ _ T.ok.nX
 clear rt Cw uz HK U3 FB HJ N1 N2 T1 T2 b3 c80 c81 d75 d104 W1 W2 qb hh d80;unfold zM at pP;have Qk:=aad T3.st M3 b75 U5 age rfl ht hlt qJ (by
  rw[hv];have:=Qj.1;have:0≤Lj (stk j)∧Lj (stk j)≤1024:=by
   cases hs:stk j with
   |nil=>exact⟨Int.le_refl _,by decide⟩
   |cons t r=>have:=Pk.mem j t hj (by rw[hs];simp);have:=I.n1;simp only[Lj];omega
  omega)
 cases he:stk j with
 |nil=>
  have hz:(a.W[E.p5+j]).tmod 65536=0:=by
   rw[hv,he];exact(wF (t:=0) (g:=tag j) ⟨by omega,by omega⟩ Qj.1).2
  rw[if_pos hz,decide_eq_true hz] at Qk
  repeat' first|simp(disch:=first|omega|assumption) only[go_sem, *] | (apply xs<;>intro _)<;>try omega|refine fun (_ _:List Nat)=>?_
  rw[eR]
  repeat' first|simp(disch:=first|omega|assumption) only[go_sem, *] | (apply xs<;>intro _)<;>try omega|refine fun (_ _:List Nat)=>?_ | (first|refine bD func152 rfl ?_ ?_ ?_ ?_ |fail)<;>intros
  refine jg (Qk) ?_;rintro r h4 n4 ⟨d4,C4,rfl,N4,M4,y80⟩;have R4:Rf E a.W a.L a.k a.K d4 C4:=R3.of fun i h1 h2=>⟨N4.dd _ fun q=>by simp at q;omega,N4.cc _ fun q=>by simp at q;omega⟩;have F4:Fy E.hz E.nz d4 C4:=T3.fy.of fun i=>⟨N4.dd _ fun q=>by simp at q,N4.cc _ fun q=>by simp at q⟩;have gl4:h4.get E.jX=row (vL a0 a1 a2 a3 a4 a5 a6 a7 a8 a9 vJ wu zu zH zI EN EO EP ER ES ET E.p5 E.p6 a23 EU a25 a26 a27):=by rw[←vH];exact(F4.kept N4.st) _ _ T.ok.nX
  have uA:=(N4.cc (120,0) qi).trans U4;have d120:=N4.dd (120,0) qi;rw[←N4.dd (104,0) qi] at uA;have rs1:=Qh N4.st R4.mem R4.pool uA gl4 ht ⟨by omega,by omega⟩ ⟨by omega,by omega⟩ ⟨by omega,by omega⟩ (hd:=E.p5+j) qJ hlt qJ (by rw[hv,he];simp only[Lj];omega);rw[if_pos hz,decide_eq_true hz,d120] at rs1;clear Qk pP gl3
  repeat' first|simp(disch:=first|omega|assumption) only[go_sem, *] | (apply xs<;>intro _)<;>try omega|refine fun (_ _:List Nat)=>?_
  refine jg (rs1) ?_;rintro r h5 n5 ⟨d5,C5,rfl,N5,M5,Cx⟩;have pP:=N5.st.at Cx;rw[N5.dd (120,0) qi,d120] at pP;have z80:=(N5.cc (80,0) qi).trans y80;have k80:=N5.st.at z80;rw[N5.dd (80,0) qi,N4.dd (80,0) qi] at k80;unfold zM at pP;unfold EH at k80;clear rs1 gl4
  repeat' first|simp(disch:=first|omega|assumption) only[go_sem, *,cG,cH,cI,cJ] | (apply xs<;>intro _)<;>try omega|refine fun (_ _:List Nat)=>?_
  rw[eR]
  repeat' first|simp(disch:=first|omega|assumption) only[go_sem, *,cG,cH,cI,cJ] | (apply xs<;>intro _)<;>try omega | ((with_reducible refine b8 5 ?_);refine dw 26 5 ade (by first | (simp only[go_sem, *];done)|rfl) (by kernel_rfl) (by kernel_rfl) ?_) | ((with_reducible refine b8 5 ?_);refine dw 28 5 ac5 (by first | (simp only[go_sem, *];done)|rfl) (by kernel_rfl) (by kernel_rfl) ?_)|refine fun (_ _:List Nat)=>?_ | (first|refine bD func152 rfl ?_ ?_ ?_ ?_ |refine bD func154 rfl ?_ ?_ ?_ ?_ |refine bD func122 rfl ?_ ?_ ?_ ?_ |fail)<;>intros
  have M5':jm d5 C5 a.W (a.L++gU th (E.p5+j:Nat) 1 a.W[E.p5+j] a.W[E.p5+j] false) (a.k+1):=M4.fr N5.cc N5.dd qi qi;have B5:=(B3.vp (N4.dd rM qi) fun i hi=>⟨N4.dd _ fun q=>by simp at q;omega,N4.cc _ fun q=>by simp at q;omega⟩).vp (N5.dd rM qi) fun i hi=>⟨N5.dd _ fun q=>by simp at q;omega,N5.cc _ fun q=>by simp at q;omega⟩;have R5:=R4.aaf N5 M5 (fun i hi q=>by simp at q;omega) (fun i hi q=>by simp at q;omega);have F5:Fy E.hz E.nz d5 C5:=F4.of fun i=>⟨N5.dd _ fun q=>by simp at q,N5.cc _ fun q=>by simp at q⟩;have l3:=T3.le;have l3':=T3.lz;have l4:=N4.le;have l5:=N5.le;refine⟨0,⟨a.W,_,a.k+1,a.K⟩,d5,C5,rfl,⟨by simp,by simp,rfl,fun _ _=>rfl,rfl,.inl rfl,by exact iT.refl.acc⟩,⟨T.ok,by omega,by omega,N5.st,N5.fz _ _ qJ (N4.fz _ _ l3 T3.fz),F5,⟨stk,tag,X,xk,R,rk,M5',B5,Pk,I,fun i hi=>by have:=EV i hi;simp only;omega⟩,R5,T.ua,T.ua,T.la,T.la⟩,(W3.trans (Wo.of N4 qi qi)).trans (Wo.of N5 qi qi)⟩
 |cons t r=>
  obtain⟨⟨ta1,ta2⟩,ta3⟩:(1≤t∧t≤E.l.H.length)∧E.l.H.getD (t-1) 0=(j:Int)+1:=by
   have:=Pk.mem j t hj (by rw[he];simp);exact⟨⟨this.1,this.2.1⟩,this.2.2⟩
  have hn1:=I.n1;have aaj:=Pk.link j hj;rw[he] at aaj hv;have pH:E.p6+t-1<a.W.length:=(List.getElem?_eq_some_iff.1 aaj.1).1;have Sz:a.W[E.p6+t-1]=Lj r:=(List.getElem?_eq_some_iff.1 aaj.1).2;obtain⟨b,hb,mT⟩:∃ b:Nat,Lj r=b∧b≤1024:=by
   cases r with
   |nil=>exact⟨0,rfl,by omega⟩
   |cons b r=>exact⟨b,rfl,by have:=(Pk.mem j b hj (by rw[he];simp)).2.1;omega⟩
  have hKt:=I.free j t hj (by rw[he];simp);have hna:∀ e∈X,e.1≠(t:Int):=fun e hm c=>by
   obtain⟨u,hu,_,_,h4⟩:=(I.out t).1 ⟨e,hm,c⟩;have:u=t:=by omega
   subst this;exact h4 hKt
  have K2:=Pk.take hj he (g:=tag j+1) qJ;have I2:=I.take hj he ⟨ta1,ta2⟩ (fun k hk=>Pk.nd k hk) fun k u hk hu c=>by
   subst c;have:=(Pk.mem k u hk hu).2.2;omega
  rw[hb] at Sz K2;have hv1:a.W[E.p5+j]=(t:Int)+65536*tag j:=hv;have hz:=(wF (t:=(t:Int)) (g:=tag j) ⟨by omega,by omega⟩ Qj.1).2;have hmod:(tag j+1)%1099511627776=tag j+1:=by omega
  have CP: ¬ (t:Int)=0:=by omega
  rw[hv1,hz,if_neg CP,decide_eq_false CP] at Qk;have F3:=T3.fy;clear hv
  repeat' first|simp(disch:=first|omega|assumption) only[go_sem, *,cG,cH,cI,cJ] | (apply xs<;>intro _)<;>try omega|refine fun (_ _:List Nat)=>?_
  rw[eR]
  repeat' first|simp(disch:=first|omega|assumption) only[go_sem, *,cG,cH,cI,cJ] | (apply xs<;>intro _)<;>try omega|refine fun (_ _:List Nat)=>?_ | (first|refine bD func152 rfl ?_ ?_ ?_ ?_ |fail)<;>intros
  refine jg (Qk) ?_;rintro r0 h4 n4 ⟨d4,C4,rfl,N4,M4,y80⟩;have R4:Rf E a.W a.L a.k a.K d4 C4:=R3.of fun i h1 h2=>⟨N4.dd _ fun q=>by simp at q;omega,N4.cc _ fun q=>by simp at q;omega⟩;have F4:Fy E.hz E.nz d4 C4:=F3.of fun i=>⟨N4.dd _ fun q=>by simp at q,N4.cc _ fun q=>by simp at q⟩;have gl4:h4.get E.jX=row (vL a0 a1 a2 a3 a4 a5 a6 a7 a8 a9 vJ wu zu zH zI EN EO EP ER ES ET E.p5 E.p6 a23 EU a25 a26 a27):=by rw[←vH];exact(F4.kept N4.st) _ _ T.ok.nX
  have uA:=(N4.cc (120,0) qi).trans U4;have d120:=N4.dd (120,0) qi;rw[←N4.dd (104,0) qi] at uA;have rs1:=Qh N4.st R4.mem R4.pool uA gl4 ht ⟨by omega,by omega⟩ ⟨by omega,by omega⟩ ⟨by omega,by omega⟩ (hd:=E.p5+j) qJ hlt qJ (by rw[hv1];omega);rw[hv1,hz,if_neg CP,decide_eq_false CP,d120] at rs1;clear Qk pP gl3 gl4
  repeat' first|simp(disch:=first|omega|assumption) only[go_sem, *,cG,cH,cI,cJ] | (apply xs<;>intro _)<;>try omega|refine fun (_ _:List Nat)=>?_
  refine jg (rs1) ?_;rintro r0 h5 n5 ⟨d5,C5,rfl,N5,M5,Cx⟩;have R5:=R4.aaf N5 M5 (fun i hi q=>by simp at q;omega) (fun i hi q=>by simp at q;omega);have F5:Fy E.hz E.nz d5 C5:=F4.of fun i=>⟨N5.dd _ fun q=>by simp at q,N5.cc _ fun q=>by simp at q⟩;have M5':jm d5 C5 _ _ _:=M4.fr N5.cc N5.dd qi qi;have B5:=(B3.vp (N4.dd rM qi) fun i hi=>⟨N4.dd _ fun q=>by simp at q;omega,N4.cc _ fun q=>by simp at q;omega⟩).vp (N5.dd rM qi) fun i hi=>⟨N5.dd _ fun q=>by simp at q;omega,N5.cc _ fun q=>by simp at q;omega⟩;have UO:=B5.pool;rw[T.ok.e5,T.ok.e6] at UO;have x80:=(N5.cc (80,0) qi).trans y80;have x81:=(N5.cc (81,0) qi).trans ((N4.cc (81,0) qi).trans age);have e75:d5 (75,0)=d3 (75,0):=(N5.dd (75,0) qi).trans (N4.dd (75,0) qi);have e81:d5 (81,0)=d3 (81,0):=(N5.dd (81,0) qi).trans (N4.dd (81,0) qi);have e80:d5 (80,0)=d3 (80,0):=(N5.dd (80,0) qi).trans (N4.dd (80,0) qi);have agk:d5 (120,0)=d3 (120,0):=(N5.dd (120,0) qi).trans d120;have arE:d5 (104,0)=d4 (104,0):=N5.dd (104,0) qi;rw[←e75,←e81] at x80;have st2:=U2 N5.st M5' UO x80 x81 rfl ht ⟨by omega,by omega⟩ ⟨by omega,by omega⟩ (a:=E.p6+t-1) qJ pH qJ (by rw[Sz];omega);rw[Sz,e80] at st2;have pP:=N5.st.at Cx;rw[agk] at pP;unfold zM at pP;clear rs1 uA d120
  repeat' first|simp(disch:=first|omega|assumption) only[go_sem, *,cG,cH,cI,cJ] | (apply xs<;>intro _)<;>try omega|refine fun (_ _:List Nat)=>?_
  rw[eR]
  repeat' first|simp(disch:=first|omega|assumption) only[go_sem, *,cG,cH,cI,cJ] | (apply xs<;>intro _)<;>try omega|refine fun (_ _:List Nat)=>?_ | (first|refine bD func152 rfl ?_ ?_ ?_ ?_ |fail)<;>intros
  refine jg (st2) ?_;rintro r0 h6 n6 ⟨d6,C6,rfl,N6,M6,y80⟩;have R6:Rf E a.W _ (a.k+1) a.K d6 C6:=R5.of fun i h1 h2=>⟨N6.dd _ fun q=>by simp at q;omega,N6.cc _ fun q=>by simp at q;omega⟩;have F6:Fy E.hz E.nz d6 C6:=F5.of fun i=>⟨N6.dd _ fun q=>by simp at q,N6.cc _ fun q=>by simp at q⟩;have gl6:h6.get E.jX=row (vL a0 a1 a2 a3 a4 a5 a6 a7 a8 a9 vJ wu zu zH zI EN EO EP ER ES ET E.p5 E.p6 a23 EU a25 a26 a27):=by rw[←vH];exact(F6.kept N6.st) _ _ T.ok.nX
  have uA:=(N6.cc (120,0) qi).trans Cx;have d120:d6 (120,0)=d3 (120,0):=(N6.dd (120,0) qi).trans agk;rw[←arE,←N6.dd (104,0) qi] at uA;have rs2:=U0 N6.st R6.mem R6.pool uA gl6 ht ⟨by omega,by omega⟩ ⟨by omega,by omega⟩ ⟨by omega,by omega⟩ hz ⟨by omega,by omega⟩ (a:=E.p6+t-1) qJ pH qJ;rw[Sz,d120] at rs2;clear st2 pP gl6
  repeat' first|simp(disch:=first|omega|assumption) only[go_sem, *,cG,cH,cI,cJ] | (apply xs<;>intro _)<;>try omega|refine fun (_ _:List Nat)=>?_
  refine jg (rs2) ?_;rintro r0 h7 n7 ⟨d7,C7,rfl,N7,M7,Cx⟩;have R7:=R6.aaf N7 M7 (fun i hi q=>by simp at q;omega) (fun i hi q=>by simp at q;omega);have F7:Fy E.hz E.nz d7 C7:=F6.of fun i=>⟨N7.dd _ fun q=>by simp at q,N7.cc _ fun q=>by simp at q⟩;have M7':jm d7 C7 _ _ _:=M6.fr N7.cc N7.dd qi qi;have B7:=(B5.vp (N6.dd rM qi) fun i hi=>⟨N6.dd _ fun q=>by simp at q;omega,N6.cc _ fun q=>by simp at q;omega⟩).vp (N7.dd rM qi) fun i hi=>⟨N7.dd _ fun q=>by simp at q;omega,N7.cc _ fun q=>by simp at q;omega⟩;have UO:=B7.pool;rw[T.ok.e5,T.ok.e6] at UO;have x80:=(N7.cc (80,0) qi).trans y80;have x81:=(N7.cc (81,0) qi).trans ((N6.cc (81,0) qi).trans x81);have f75:d7 (75,0)=d5 (75,0):=(N7.dd (75,0) qi).trans (N6.dd (75,0) qi);have f81:d7 (81,0)=d5 (81,0):=(N7.dd (81,0) qi).trans (N6.dd (81,0) qi);have f80:d7 (80,0)=d3 (80,0):=(N7.dd (80,0) qi).trans ((N6.dd (80,0) qi).trans e80);have f120:d7 (120,0)=d3 (120,0):=(N7.dd (120,0) qi).trans d120;have f104:d7 (104,0)=d6 (104,0):=N7.dd (104,0) qi;rw[←f75,←f81] at x80;have st3:=aae N7.st M7' UO x80 x81 B7.out rfl ht hlt qJ hv1 ⟨by omega,by omega⟩ Qj mT hna;rw[f80,hmod] at st3;have pP:=N7.st.at Cx;rw[f120] at pP;unfold zM at pP;clear rs2 uA d120
  repeat' first|simp(disch:=first|omega|assumption) only[go_sem, *,cG,cH,cI,cJ] | (apply xs<;>intro _)<;>try omega|refine fun (_ _:List Nat)=>?_
  rw[eR]
  repeat' first|simp(disch:=first|omega|assumption) only[go_sem, *,cG,cH,cI,cJ] | (apply xs<;>intro _)<;>try omega|refine fun (_ _:List Nat)=>?_ | (first|refine bD func152 rfl ?_ ?_ ?_ ?_ |fail)<;>intros
  refine jg (st3) ?_;rintro r0 h8 n8 ⟨d8,C8,rfl,N8,M8,y80,y76⟩;have R8:Rf E a.W _ (a.k+1+1) a.K d8 C8:=R7.of fun i h1 h2=>⟨N8.dd _ fun q=>by simp at q;omega,N8.cc _ fun q=>by simp at q;omega⟩;have F8:Fy E.hz E.nz d8 C8:=F7.of fun i=>⟨N8.dd _ fun q=>by simp at q,N8.cc _ fun q=>by simp at q⟩;have gl8:h8.get E.jX=row (vL a0 a1 a2 a3 a4 a5 a6 a7 a8 a9 vJ wu zu zH zI EN EO EP ER ES ET E.p5 E.p6 a23 EU a25 a26 a27):=by rw[←vH];exact(F8.kept N8.st) _ _ T.ok.nX
  have uA:=(N8.cc (120,0) qi).trans Cx;have d120:d8 (120,0)=d3 (120,0):=(N8.dd (120,0) qi).trans f120;rw[←f104,←N8.dd (104,0) qi] at uA;have hKl:=T.rf.len;have htl:(CT a.K).length=a.K.length:=List.length_map _;have rp:=R8.pool;rw[←htl] at rp;have rs3:=Z_ N8.st R8.mem rp R8.taken uA gl8 ht ⟨by omega,by omega⟩ ⟨by omega,by omega⟩ ⟨by omega,by omega⟩ (hd:=E.p5+j) qJ hlt hv1 ⟨by omega,by omega⟩ (by rw[htl];omega) ⟨Qj.1,by omega⟩ mT qJ;rw[d120] at rs3;clear st3 pP gl8
  repeat' first|simp(disch:=first|omega|assumption) only[go_sem, *,cG,cH,cI,cJ] | (apply xs<;>intro _)<;>try omega|refine fun (_ _:List Nat)=>?_
  refine jg (rs3) ?_;rintro r0 h9 n9 ⟨d9,C9,rfl,N9,M9,Cx,arJ⟩;have pP:=N9.st.at Cx;rw[N9.dd (120,0) qi,d120] at pP;have z80:=(N9.cc (80,0) qi).trans y80;have k80:=N9.st.at z80;rw[N9.dd (80,0) qi,N8.dd (80,0) qi,f80] at k80;unfold zM at pP;unfold EH at k80;clear rs3
  repeat' first|simp(disch:=first|omega|assumption) only[go_sem, *,cG,cH,cI,cJ] | (apply xs<;>intro _)<;>try omega|refine fun (_ _:List Nat)=>?_
  rw[eR]
  repeat' first|simp(disch:=first|omega|assumption) only[go_sem, *,cG,cH,cI,cJ] | (apply xs<;>intro _)<;>try omega | ((with_reducible refine b8 5 ?_);refine dw 26 5 ade (by first | (simp only[go_sem, *];done)|rfl) (by kernel_rfl) (by kernel_rfl) ?_) | ((with_reducible refine b8 5 ?_);refine dw 28 5 ac5 (by first | (simp only[go_sem, *];done)|rfl) (by kernel_rfl) (by kernel_rfl) ?_)|refine fun (_ _:List Nat)=>?_ | (first|refine bD func152 rfl ?_ ?_ ?_ ?_ |refine bD func154 rfl ?_ ?_ ?_ ?_ |refine bD func122 rfl ?_ ?_ ?_ ?_ |fail)<;>intros
  have M9':jm d9 C9 _ _ _:=M8.fr N9.cc N9.dd qi qi;have B8:=B7.move (X':=X++[((t:Int),.bool false,xk)]) (xk':=xk+1) (N8.dd rM qi) (fun i c h1 h2 h3 h4 h5=>⟨N8.dd _ fun q=>by simp at q;omega,N8.cc _ fun q=>by simp at q;omega⟩) (N8.dd (76,0) qi) (N8.dd (77,0) qi) y76 ((N8.cc (77,0) qi).trans B7.Cn) rfl;have B9:=B8.vp (N9.dd rM qi) fun i hi=>⟨N9.dd _ fun q=>by simp at q;omega,N9.cc _ fun q=>by simp at q;omega⟩;have R9:=R8.take N9 M9 qJ hKt arJ;have F9:Fy E.hz E.nz d9 C9:=F8.of fun i=>⟨N9.dd _ fun q=>by simp at q,N9.cc _ fun q=>by simp at q⟩;have l3:=T3.le;have l3':=T3.lz;have l4:=N4.le;have l5:=N5.le;have l6:=N6.le;have l7:=N7.le;have l8:=N8.le;have l9:=N9.le;have hu:∀ x∈a.W.set (E.p5+j) ((b:Int)+65536*(tag j+1)),0≤x∧x<18446744073709551616:=nY T.ua qJ;refine⟨t,⟨a.W.set (E.p5+j) ((b:Int)+65536*(tag j+1)),_,a.k+1+1+1,a.K.set t 1⟩,d9,C9,rfl,⟨by simp only;omega,by simp only;omega,List.length_set,fun i hi=>?_,(if_neg qJ).symm,.inr ⟨ta1,ta2,ta3,hKt⟩,by exact iT.refl.acc.acc.acc⟩,⟨T.ok,by omega,by omega,N9.st,N9.fz _ _ qJ (N8.fz _ _ qJ (N7.fz _ _ qJ (N6.fz _ _ qJ (N5.fz _ _ qJ (N4.fz _ _ l3 T3.fz))))),F9,⟨_,_,_,_,R,rk,M9',B9,K2,I2,fun i hi=>?_⟩,R9,hu,hu,by simp only[List.length_set];exact T.la,by simp only[List.length_set];exact T.la⟩,
   (((((W3.trans (Wo.of N4 qi qi)).trans (Wo.of N5 qi qi)).trans (Wo.of N6 qi qi)).trans (Wo.of N7 qi qi)).trans (Wo.of N8 qi qi)).trans (Wo.of N9 qi qi)⟩
  ·exact List.getElem?_set_ne qJ
  ·have:=EV i hi;by_cases c:i=j
   ·subst c;rw[jU];simp only;omega
   ·rw[pM c];simp only;omega
end
end Go.Proofs.YtofmbmclopgldaaGreat
namespace Go.Proofs.YtofmbmclopgldaaGreat
open Go.Am
abbrev Acc:=Int×Int×Int×Int×Int×Bool
def zN(A:List Acc):List Value:=A.flatMap fun x=>gU x.1 x.2.1 x.2.2.1 x.2.2.2.1 x.2.2.2.2.1 x.2.2.2.2.2
theorem Qm{A:List Acc}:(zN A).all bw=true:=by
 rw[List.all_eq_true];intro v hv;unfold zN at hv;obtain⟨x,-,hx⟩:=List.mem_flatMap.1 hv;simp only[gU,List.mem_cons,List.not_mem_nil,or_false] at hx
 rcases hx with rfl|rfl|rfl|rfl|rfl|rfl<;>rfl
section
variable {h:PT aj} {n:Nat}
end
end Go.Proofs.YtofmbmclopgldaaGreat
namespace Go.Proofs.YtofmbmclopgldaaGreat
open Go.Am
def mkV(g:Nat)(T:List Int):Value:=if T.length=0 then .slice none 0 0 else .slice (some ⟨g,0,none⟩) T.length (aA+1)
theorem tH{g:Nat}:mkV g [] = .slice none 0 0:=rfl
theorem fS{g:Nat}{T:List Int}(h:0<T.length):mkV g T = .slice (some ⟨g,0,none⟩) T.length (aA+1):=if_neg qJ
theorem tI{g:Nat}{T:List Int}{x:Int}:mkV g (T++[x]) = .slice (some ⟨g,0,none⟩) (T.length+1) (aA+1):=by rw[fS (by simp)];simp
theorem fm{α:Type}{f:Int→α}{z:α}{K:List Int}{i:Nat}(h:i<K.length):(K.map f)[i]? = some (f (K.getD i 0)):=by
 rw[List.getElem?_map,List.getElem?_eq_getElem h];simp[List.getD,h]
section
variable {E:Ev} {W:List Int} {L:List Value} {k:Nat} {K:List Int} {d:Rl→Nat} {C:Rl→Option aj} {h:PT aj} {n:Nat}
end
end Go.Proofs.YtofmbmclopgldaaGreat
namespace Go.Proofs.YtofmbmclopgldaaGreat
open Go.Am
section
variable {E:Ev} {W:List Int} {L:List Value} {k:Nat} {K:List Int} {d:Rl→Nat} {C:Rl→Option aj} {h:PT aj} {n:Nat}
end
end Go.Proofs.YtofmbmclopgldaaGreat
namespace Go.Proofs.YtofmbmclopgldaaGreat
open Go.Am
section
variable {E:Ev} {W:List Int} {L:List Value} {k:Nat} {K:List Int} {d:Rl→Nat} {C:Rl→Option aj} {h:PT aj} {n:Nat}
end
end Go.Proofs.YtofmbmclopgldaaGreat
