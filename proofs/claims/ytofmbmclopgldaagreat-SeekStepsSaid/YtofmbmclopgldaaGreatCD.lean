/-
A part.
-/
import Derived.Test.YtofmbmclopgldaaGreatSV3
import Derived.Test.YtofmbmclopgldaaGreatAmZ
import Derived.Test.YtofmbmclopgldaaGreatOut1
set_option linter.all false
set_option maxRecDepth 100000
set_option maxHeartbeats 32000000
namespace Go.Proofs.YtofmbmclopgldaaGreat
open Go.Am Go.Proofs.Tryz
structure acj(E:Ev)(s sb:Sd)(mV n3 g0 g1 g2:Nat)(LG:List Value)(PC:List Int)(d:Rl→Nat)(C:Rl→Option aj)(h:PT aj)(n:Nat):Prop where
 T:Tw E s sb d C h n
 Mc:d (70,0)=mV
 zi:d (230,0)=n3
 zj:∃ bq,C (230,0)=row [pt mV,bq]
 aBl:d (140,0)=g0
 ae3:C (140,0)=row (s.W.map (.int .u64))
 aqT:d (141,0)=g1
 acM:C (141,0)=row LG
 aBm:d (250,0)=g2
 aqU:C (250,0)=row (PC.map (.int .u8))
theorem acj.mv{E:Ev}{s sb:Sd}{mV n3 g0 g1 g2:Nat}{LG:List Value}{PC:List Int}{d d':Rl→Nat}{C C':Rl→Option aj}{h h':PT aj}{n n':Nat}{X Y:List Rl}(I:acj E s sb mV n3 g0 g1 g2 LG PC d C h n)(N:Nz n d C X Y d' C' h' n')(hX:∀ r∈X,(r.1∉sA∧r.1∉sB)∧r.1≠9998)(hY:∀ r∈Y,(r.1∉sA∧r.1∉sB)∧r.1≠9998)
  (h1:((230,0):Rl)∉X∧((140,0):Rl)∉X∧((141,0):Rl)∉X∧((250,0):Rl)∉X) (h2:((230,0):Rl)∉Y∧((140,0):Rl)∉Y∧((141,0):Rl)∉Y∧((250,0):Rl)∉Y∧((70,0):Rl)∉Y):acj E s sb mV n3 g0 g1 g2 LG PC d' C' h' n':=by
 obtain⟨T,Mc,zi,⟨bq,zj⟩,e0,c0,e1,c1,e2,c2⟩:=I;exact⟨T.own N hX hY,(N.dd _ h2.2.2.2.2).trans Mc,(N.dd _ h2.1).trans zi,⟨bq,(N.cc _ h1.1).trans zj⟩,(N.dd _ h2.2.1).trans e0,(N.cc _ h1.2.1).trans c0,(N.dd _ h2.2.2.1).trans e1,(N.cc _ h1.2.2.1).trans c1,(N.dd _ h2.2.2.2.1).trans e2,(N.cc _ h1.2.2.2).trans c2⟩
section
variable {h:PT aj} {n:Nat}
theorem ack(hW:bQ h n){th sl en bu kd dn t0 t1 t2 t3 t4 t5 lo tr ba:Int}{s:Value}{xs:List Int}(hs:aN .u64 h s xs)(hps:∀ x∈xs,0≤x∧x<18446744073709551616)(hl:xs.length<1000000000000000)(vC:0≤kd∧kd<256)(LN:0≤en∧en<256)
  {u1:Value} {A1:List (List Int)} {p1:Nat} (Zw:o9 ksL h p1 u1 A1) {xt xv xk:Int} (E0:0≤xk∧xk<18446744073709551616):
  cE prog OB 7 [.agg ⟨[I6 th,I6 sl,U8 en,I6 bu,U8 kd,I6 dn,s,I6 t0,I6 t1,I6 t2,I6 t3,I6 t4,I6 t5,I6 lo,I6 tr,I6 ba]⟩,u1,.agg ⟨[I6 xt,I6 xv,U6 xk]⟩] h n fun v h' n'=>v = .bool true:=by
 obtain⟨sa,sc,rfl,-⟩:=hs.len;obtain⟨a1,c1,rfl⟩:∃ a c,u1 = .slice a A1.length c:=by
  rcases Zw.2 with ⟨rfl,rfl⟩ | ⟨cp,rfl,-⟩
  ·exact⟨none,0,rfl⟩
  ·exact⟨_,_,rfl⟩
 refine ay (N:=209) func7 rfl rfl fun z hP hO hro hN hQ=>?_
 repeat' first|simp(disch:=try exact yj) only[go_sem, *] | (apply xs<;>intro _)<;>try omega
 generalize Hy:(h.set n _).set (n+1) _=h1;have W1:bQ h1 (n+1+1):=by
  rw[←Hy]
  (repeat refine bQ.set' qJ ?_);first|assumption|exact bQ.mono (by assumption) qJ
 have K1:Kept h h1:=by
  rw[←Hy]
  repeat refine Kept.set' hW qJ ?_
  exact Kept.refl _
 have gx1:h1.get (n+1)=row [I6 xt,I6 xv,U6 xk]:=by rw[←Hy];exact aI
 clear Hy
 repeat' first|simp(disch:=try exact yj) only[go_sem, *] | (apply xs<;>intro _)<;>try omega
 refine jg (VA (St.all W1) (Fz.all W1) (Nat.le_refl _) (hs.keep K1) hps hl vC LN) ?_;rintro v h2 n2 ⟨d2,C2,th',sl',en',bu',kd',dn',t0',t1',t2',t3',t4',t5',lo',tr',ba',s2,uC,rfl,sm,tM,N2⟩;have K2:=(N2.fz _ _ (Nat.le_refl _) (Fz.all W1)).kept N2.st;have W2:=N2.st.wf;have l2:=N2.le;have K02:=K1.trans K2;have gx2:=K2 _ _ gx1;clear N2 K1 K2 gx1 W1 hs;obtain⟨sa2,sc2,rfl,-⟩:=tM.len
 repeat' first|simp(disch:=try exact yj) only[go_sem, *] | (apply xs<;>intro _)<;>try omega
 refine jg (aaG W2 tM sm) ?_;rintro v h3 n3 ⟨E,d3,C3,rfl,K3,hn3,T3,hPO,hV5,hOf⟩;have KE:=K02.trans K3;have gxE:=K3 _ _ gx2;clear K02 K3 gx2 W2 tM sm;have gx3:=(T3.fz.kept T3.st) _ _ gxE
 repeat' first|simp(disch:=try exact yj) only[go_sem, *] | (apply xs<;>intro _)<;>try omega
 rw[PT.set_set];obtain⟨d4,C4,N4,zi,zj⟩:∃ d4 C4,Nz n3 d3 C3 [(230,0)] [(230,0)] d4 C4 (h3.set n3 (row [pt (d3 (70,0)),pt (d3 qB)])) (n3+1)∧d4 (230,0)=n3∧C4 (230,0)=row [pt (d3 (70,0)),pt (d3 qB)]:=
  ⟨_,_,Nz.new qi (Nat.le_refl _) (Nat.le_succ _) (T3.st.new (230,0) _ (Nat.le_refl _) (Nat.lt_succ_self _)),aq,aq⟩
 have T4:=T3.own N4 qi qi;have ly:=Vn T4 (by show (0:Nat)≤1000;omega) (Zw.keep KE);have Mc:=N4.dd (70,0) qi;have Md:=N4.dd qB qi;unfold two at ly;rw[Mc,Md] at ly;generalize h3.set n3 _=h4 at*;refine jg (ly) ?_;rintro v h5 n5 ⟨rfl,s5,d5,C5,hL5,hk5,T5,M5⟩;have aHQ:s5.k≤720:=by have:(Sd.yL E).k=0:=rfl;omega
 have aaI:=Rn hL5;obtain⟨X,F,Us⟩:=Form.aeX T5.ok Zw.1 (Nat.min_le_left _ _) (Form.yL T5.ok T3.la) hL5;have aaJ:=M5.own (230,0) qi qi;have HP:=M5.a.trans Mc;have Fa:=M5.b.trans Md;have JE:=aaJ.1.trans zi;have JF:=aaJ.2.trans zj;have pT:=T5.st.at JF;rw[JE] at pT;have gx5:=(T5.fz.kept T5.st) _ _ gxE;have hdl:=T5.dom;rw[Fa] at hdl;clear ly hL5 M5 aaJ hk5 T3 T4 N4 zi zj Mc Md hPO Fa KE gx3;generalize d3 (70,0)=mV at*;generalize d3 qB=bq at*;have JN:=fun z L f d ops r K m n lo rd wr fs=>@eT _ _ _ _ _ hdl z L f d ops r K m n lo rd wr fs (fun _ _ q=>q);have Xl:=T5.ok.dom;have hcn:=T5.ok.cnt.symm;have hV1:=T5.ok.num.V1;have hV3:E.V≤100000:=by omega
 obtain⟨o1,o2⟩:=@cZ xv E.V;obtain⟨o3,o4⟩:=@cZ xt 64;have o2:=o2 qJ;have o4:=o4 qi;generalize hvx:bh xv E.V=vv at*;generalize hvt:bh xt 64=tt at*;obtain⟨A,B,hX,hA,hB⟩:=aai (key:=xk) (F.yt vv o1 o2);obtain⟨N,A1',A2',h0,hpc,hok,H,hN1,hN2,hN3⟩:=abT T5.ok F o1 o2 hX hA hB;have hAl:(X vv).length≤40:=by have:=Us vv;simp at this;omega
 have hAX:A.length≤(X vv).length:=by rw[hX];simp
 have rn:=fun d6 C6 h6 n6 (T6:Tw E s5 s5 d6 C6 h6 n6)=>aBe T6 qJ (th:=tt) (v:=vv) (key:=xk) (N:=N) ⟨o3,o4⟩ ⟨o1,o2⟩ E0 qJ qJ h0 hpc hok;obtain⟨stk,tag,XX,xxk,RR,rrk,M5,B5,Pk,Ii,EV⟩:=T5.pg;have FA:=T5.st.at B5.base;rw[HP] at FA;have gM:=T5.st.at M5.mem;obtain⟨lgx,lgc,hlg⟩:∃ a c,wB (d5 rL) s5.k = .slice a s5.k c:=by
  unfold wB;split
  ·rename_i q;rw[q];exact⟨_,_,rfl⟩
  ·exact⟨_,_,rfl⟩
 rw[hlg] at gM;have rP:s5.W.length≤65536:=by have:=T5.la;have:=T5.ok.num.RY;omega
 have wz:=aac T5.st M5 rP;clear Pk Ii EV
 repeat' first|simp(disch:=try exact yj) only[go_sem, *,jT,sW,Ez,cJ,cG,cH,cI,Bool.not_true,Bool.not_false] | (apply xs<;>intro _)<;>try omega | ((with_reducible refine b8 4 ?_);refine dw 209 4 aAd (by first | (simp only[go_sem, *];done)|rfl) (by kernel_rfl) (by kernel_rfl) ?_) | ((with_reducible refine b8 5 ?_);refine dw 209 5 aAe (by first | (simp only[go_sem, *];done)|rfl) (by kernel_rfl) (by kernel_rfl) ?_)
 refine jg (wz) ?_;rintro y h6 n6 ⟨d6,C6,N6,hOw⟩;intro Sc Se;clear wz JN hdl gM FA pT;have T6:=T5.own N6 qi qi;have gx6:=(T6.fz.kept T6.st) _ _ gxE;have aeh:=(N6.dd (70,0) qi).trans HP;have A8:=(N6.dd (230,0) qi).trans JE;have A_:=(N6.cc (230,0) qi).trans JF;have pT:=T6.st.at A_;rw[A8] at pT;have hW0:0<s5.W.length:=by have:=T5.la;have:=T5.ok.num.sz1;omega
 obtain⟨g0c,rfl,ae3⟩:∃ c,y = .slice (some ⟨d6 (140,0),0,none⟩) s5.W.length c∧C6 (140,0)=row (s5.W.map (.int .u64)):=by
  rcases hOw with ⟨-,q⟩ |q
  ·rw[q] at hW0;simp at hW0
  ·exact q
 have rn:=rn _ _ _ _ T6;rw[aeh] at rn
 repeat' first|simp(disch:=try exact yj) only[go_sem, *,cJ,cG,cH,cI,Bool.not_true,Bool.not_false] | (apply xs<;>intro _)<;>try omega
 refine jg (rn) ?_;rintro y h7 n7 ⟨d7,C7,rfl,N7,cF,cP,T7⟩;clear rn;have aej:=(N7.dd (70,0) qi).trans aeh;have JG:=(N7.dd (230,0) qi).trans A8;have JH:=(N7.cc (230,0) qi).trans A_;have pT:=T7.st.at JH;rw[JG] at pT;obtain⟨lw,lk,lK⟩:=@acn E s5 tt xk (SS.new vv) N;obtain⟨stk,tag,XX,xxk,RR,rrk,M7,B7,Pk,Ii,EV⟩:=T7.pg;have FA:=T7.st.at B7.base;rw[aej] at FA;have hone:(s5.lds E tt xk (SS.new vv) N).L.all bw=true:=by
  obtain⟨AA,XK⟩:=aaI.trans (acq (E:=E) (s:=s5) (th:=tt) (key:=xk) (x:=SS.new vv) N);rw[XK];exact Qm (A:=AA)
 have hkL:s5.L.length=s5.k*6:=M5.len;have aff:(s5.lds E tt xk (SS.new vv) N).L.drop (s5.k*6)=ldL E s5.W xk (SS.new vv) tt N:=by
  rw[afe,List.drop_append,←hkL,List.drop_length,Nat.sub_self,List.drop_zero,List.nil_append]
 have lz:=(agc (fr:=s5.k) T7.st M7 qJ (by rw[lw];omega) qJ hone).mono (R':=fun v h' n'=>∃ d' C',v = .slice (some ⟨d' (141,0),0,none⟩) N N∧Nz n7 d7 C7 [(141,0)] [(141,0)] d' C' h' n'∧C' (141,0)=row (ldL E s5.W xk (SS.new vv) tt N)) (fun v h' n' ⟨d',C',e,N8,q⟩=>by
  have hlt:s5.k<(s5.lds E tt xk (SS.new vv) N).k:=by omega
  rw[if_pos hlt,lk,show s5.k+N-s5.k=N by omega] at e;exact⟨d',C',e,N8,by rw[q hlt,aff]⟩)
 clear Pk Ii EV stk tag hone
 repeat' first|simp(disch:=try exact yj) only[go_sem, *,Ez,cJ,cG,cH,cI,Bool.not_true,Bool.not_false] | (apply xs<;>intro _)<;>try omega
 refine jg (lz) ?_;rintro y h8 n8 ⟨d8,C8,rfl,N8,acM⟩;clear lz FA hkL aff;have I8:acj E (s5.lds E tt xk (SS.new vv) N) s5 mV n3 (d6 (140,0)) (d8 (141,0)) (d7 B4) (ldL E s5.W xk (SS.new vv) tt N) (I7 E s5.W xk (SS.new vv) N) d8 C8 h8 n8:=
  ⟨T7.own N8 qi qi,(N8.dd (70,0) qi).trans aej,(N8.dd (230,0) qi).trans JG,⟨pt bq,(N8.cc (230,0) qi).trans JH⟩,(N8.dd (140,0) qi).trans (N7.dd (140,0) qi),by rw[lw];exact(N8.cc (140,0) qi).trans ((N7.cc (140,0) qi).trans ae3),rfl,acM,N8.dd B4 qi,(N8.cc B4 qi).trans cP⟩
 have hsW:(s5.lds E tt xk (SS.new vv) N).W=s5.W:=lw;have aau:=T5.ok;have ab':=F.wE T5.ok o1 o2 (k:=0) qi;rw[abt T5.ok fun t ht=>(F.on _ o1 o2 t ht).1] at ab';rw[show ((0:Nat):Int)=0 from rfl] at ab';have hnd:=aau.num.nxt (Po (k:=0) o1 o2 qi);rw[show ((0:Nat):Int)=0 from rfl] at hnd;have hTA:∀ u∈A,ux E.l u:=fun u hu=>(F.on vv o1 o2 u (by rw[hX];simp[hu])).1;have hrd:∀ i,i<N→Rds E vv (I5 E s5.W xk i (SS.new vv)):=fun i hi=>by
  obtain⟨B1,B2,Hi⟩:=hN3 i hi;exact Hi.reads (hpc i hi) hTA
 have VN:∀ i,i<N→(I7 E s5.W xk (SS.new vv) N)[i]? = some (I5 E s5.W xk i (SS.new vv)).pc:=fun i hi=>by
  unfold I7;rw[List.getElem?_map,List.getElem?_range hi];rfl
 have zR:∀ i j,i<N→j<6→(ldL E s5.W xk (SS.new vv) tt N)[i*6+j]? = (gU tt ((I5 E s5.W xk i (SS.new vv)).ad E) 1 (vm s5.W ((I5 E s5.W xk i (SS.new vv)).ad E)) (vm s5.W ((I5 E s5.W xk i (SS.new vv)).ad E)) false)[j]? := fun i j hi hj=>acr hi hj;have aeF:(ldL E s5.W xk (SS.new vv) tt N).length=N*6:=Kz N;have afg:(I7 E s5.W xk (SS.new vv) N).length=N:=X4;have hlk:(s5.lds E tt xk (SS.new vv) N).k≤2000:=by omega
 have hNb:N≤2000:=by omega
 clear hN3 hpc hok h0 H hA hB hX cF cP acM ae3 N6 N7 N8 T5 T6 T7 M5 B5 M7 B7 F Us gx5 gx6 gxE HP aeh aej JE A8 JG JF A_ JH pT lw lk lK aaI hOw hTA hvx hvt hn3 Zw hW l2 Xl hcn hlg;generalize s5.lds E tt xk (SS.new vv) N=sL at*;generalize ldL E s5.W xk (SS.new vv) tt N=LG at*;generalize hPC:I7 E s5.W xk (SS.new vv) N=PC at*;clear hPC;generalize d6 (140,0)=g0 at*;generalize d8 (141,0)=g1 at*;generalize d7 B4=g2 at*;have lb:∀ (d':Rl→Nat) (C':Rl→Option aj) (h':PT aj) (n':Nat),acj E sL s5 mV n3 g0 g1 g2 LG PC d' C' h' n'→cE prog OB 41 [pt (d' (78,0)),I6 vv,I6 0] h' n' fun r h2 n2=>∃ s,r=iU [s,I6 0]∧bg .i64 h2 n' s (X vv)∧Kept h' h2∧bQ h2 n2∧n'≤n2:=fun d' C' h' n' I=>by
  obtain⟨stk,tag,XX,xxk,RR,rrk,M,Bb,-,-,-⟩:=I.T.pg;have Tw0:abU h' (d' (78,0)) (d' rM) (d' rW) E.lb (wB (d' rL) sL.k) sL.W E.l:=⟨I.T.st.at Bb.vh,I.T.st.at M.mem,I.T.st.at M.words,gT (I.T.fz.kept I.T.st) aau.look,I.T.ua,by have:=aau.hlen;omega,by have:=I.T.la;have:=aau.num.RY;omega⟩;have q:=aqR (v:=vv) (lv:=0) I.T.st.wf Tw0 ⟨o1,by omega⟩ hnd.2;rw[hsW,ab'] at q;exact q
 obtain⟨bq8,zj⟩:=I8.zj;have pT:=I8.T.st.at zj;rw[I8.zi] at pT;have FA:∃ S,h8.get mV=row S∧S[3]? = some (pt (d8 (78,0))):=by
  obtain⟨stk,tag,XX,xxk,RR,rrk,M,Bb,-,-,-⟩:=I8.T.pg;have q:=I8.T.st.at Bb.base;rw[I8.Mc] at q;exact⟨_,q,rfl⟩
 obtain⟨S70,FA,s3⟩:=FA;have lb8:=lb _ _ _ _ I8
 repeat' first|simp(disch:=try exact yj) only[go_sem, *,EA,cJ,cG,cH,cI,Bool.not_true,Bool.not_false] | (apply xs<;>intro _)<;>try omega
 refine jg (lb8) ?_;rintro y h9 n9 ⟨sl,rfl,hg,kk,ww,ll⟩;obtain⟨x,cap,rfl⟩:∃ x c,sl = .slice x (X vv).length c:=by
  rcases hg with ⟨rfl,q⟩ | ⟨b,rfl,-⟩
  ·rw[q];exact⟨none,0,rfl⟩
  ·exact⟨_,_,rfl⟩
 have I9:=I8.mv (Nz.keep (X:=[]) (Y:=[]) I8.T.st kk ww ll) (by simp) (by simp) (by simp) (by simp);have f1: ¬ (2*((X vv).length:Int)+12<(N:Int)):=by omega
 have f2: ¬ ((N:Int)<6):=by omega
 clear lb8 hg kk ww ll FA s3 pT zj lb I8
 repeat' first|simp(disch:=try exact yj) only[go_sem, *,cJ,cG,cH,cI,Bool.not_true,Bool.not_false] | (apply xs<;>intro _)<;>try omega
 clear f1 f2 hAX hN1 ab' hAl;refine a_ (fun t m h' n'=>∃ (i:Nat) (d':Rl→Nat) (C':Rl→Option aj),i≤N∧t=N-i∧m.n=209∧m.fF=[]∧m.get 7=pt n3∧m.get 9=I6 tt∧m.get 10=I6 vv∧m.get 12 = .slice (some ⟨g0,0,none⟩) s5.W.length g0c∧m.get 14 = .slice (some ⟨g2,0,none⟩) N (aA+1)∧m.get 15 = .slice (some ⟨g1,0,none⟩) N N∧m.get 18=I6 i∧acj E sL s5 mV n3 g0 g1 g2 LG PC d' C' h' n') N ?_ ?_
 ·refine⟨0,d8,C8,by omega,rfl,?_⟩;simp(disch:=try exact yj) only[go_sem, *]
  first|exact I9|exact⟨rfl,I9⟩ |trace_state
 ·clear I9;rintro t m h' n' ih ⟨i,d9,C9,hi,rfl,m1,m2,m3,m4,m5,m6,m7,m8,m9,I⟩;obtain⟨bq9,zj⟩:=I.zj;have pT:=I.T.st.at zj;rw[I.zi] at pT;obtain⟨stk,tag,XX,xxk,RR,rrk,M,Bb,Pk,Ii,EV⟩:=I.T.pg;have FA:=I.T.st.at Bb.base;rw[I.Mc] at FA;clear Pk Ii EV stk tag;by_cases hlt:i<N
  ·have e7:(i:Int)<N:=by omega
   have PG:(i:Int)+1=((i+1:Nat):Int):=by omega
   have hpi:=VN i hlt;have hr:=hrd i hlt;have hl0:=zR i 0 hlt qi;have hl1:=zR i 1 hlt qi;have zo:=zR i 2 hlt qi;rw[Nat.add_zero] at hl0;generalize I5 E s5.W xk i (SS.new vv)=ss at*;replace hl0:LG[i*6]? = some (I6 tt):=hl0;replace hl1:LG[i*6+1]? = some (I6 (ss.ad E)):=hl1;replace zo:LG[i*6+2]? = some (U8 1):=zo;have kk:=fun hh (SS:St hh n' d9 (vl ([]++Ma E.n1) C9))=>(I.T.fz.vl []).kept SS;obtain⟨kd,ix,wd,of,cnd⟩:∃ (kd ix wd:Int),(∀ hh,St hh n' d9 (vl ([]++Ma E.n1) C9)→cE prog OB 44 [pt E.lb,I6 (ss.ad E)] hh n' fun y h2 n2=>∃ d2 C2,Nz n' d9 (vl ([]++Ma E.n1) C9) [] [] d2 C2 h2 n2∧y = .agg ⟨[U8 kd,I6 ix,I6 wd]⟩)∧((kd=8∧ix=vv∧1≤wd∧ss.pc=21)∨(kd=9∧5≤wd∧ss.pc=21)∨(kd=9∧wd=0∧ss.pc=22)):=by
    rcases hr with ⟨q1,q2,q3,q4⟩ | ⟨q1,q2,q3,q4⟩ | ⟨q1,q2,q4⟩
    ·refine⟨8,vv,1+(ss.lv:Int),fun hh SS=>?_,.inl ⟨rfl,rfl,by omega,q1⟩⟩;rw[q4];refine(ofH SS.wf (hOf.keep (kk hh SS)) aau.num ⟨o1,o2⟩ ⟨by omega,by omega⟩).mono ?_;rintro y h2 n2 ⟨e,a1,a2,a3⟩;exact⟨_,_,Nz.keep SS a1 a2 a3,e⟩
    ·refine⟨9,ss.nd,((5+ss.lv:Nat):Int),fun hh SS=>?_,.inr (.inl ⟨rfl,by omega,q1⟩)⟩;rw[q4];refine(ofT SS.wf (hOf.keep (kk hh SS)) aau.num q2 qJ).mono ?_;rintro y h2 n2 ⟨e,a1,a2,a3⟩;exact⟨_,_,Nz.keep SS a1 a2 a3,e⟩
    ·refine⟨9,ss.c,((0:Nat):Int),fun hh SS=>?_,.inr (.inr ⟨rfl,rfl,q1⟩)⟩;rw[q4];have tw:=aau.num.vh q2;refine(ofT (w:=0) SS.wf (hOf.keep (kk hh SS)) aau.num q2 qJ).mono ?_;rintro y h2 n2 ⟨e,a1,a2,a3⟩;exact⟨_,_,Nz.keep SS a1 a2 a3,e⟩
   have hpm:(PC.map (Value.int .u8))[i]? = some (U8 ss.pc):=by rw[List.getElem?_map,hpi];rfl
   have ae4:=I.T.st.at I.acM;rw[I.aqT] at ae4;have hLl:LG.length=N*6:=aeF;have hPl:(PC.map (Value.int .u8)).length=N:=by rw[List.length_map];exact afg
   clear hr hpi kk hrd VN zR
   repeat' first|simp(disch:=try exact yj) only[go_sem, *,Jd,cJ,cG,cH,cI,Bool.not_true,Bool.not_false] | (apply xs<;>intro _)<;>try omega | ((with_reducible refine b8 14 ?_);refine dw 209 14 aox (by first | (simp only[go_sem, *];done)|rfl) (by kernel_rfl) (by kernel_rfl) ?_)
   refine lN ([]++Ma E.n1) I.T.st of (by simp) (by simp) (by simp only[*]) (by simp only[*]) (by simp only[go_sem, *]) (by simp only[go_sem, *]) ?_;rintro v h4 n4 d4 C0 C4 N4-rfl rd wr-;have J4:=I.mv N4 (by simp) (by simp) (by simp) (by simp);have ae4:=J4.T.st.at J4.acM;have aBo:=J4.T.st.lt J4.acM;rw[J4.aqT] at ae4 aBo;have aqW:=J4.T.st.at J4.aqU;have aBp:=J4.T.st.lt J4.aqU;rw[J4.aBm] at aqW aBp;have J5:∀ (A B:Option aj),acj E sL s5 mV n3 g0 g1 g2 LG PC d4 C4 ((h4.set n4 A).set n4 B) (n4+1):=fun A B=>by
    have Wf:=J4.T.st.wf;refine J4.mv (Nz.keep (X:=[]) (Y:=[]) J4.T.st ?_ ?_ (Nat.le_succ _)) (by simp) (by simp) (by simp) (by simp)
    ·repeat refine Kept.set' Wf qJ ?_
     exact Kept.refl _
    ·(repeat refine bQ.set' qJ ?_);first|assumption|exact bQ.mono (by assumption) qJ
   clear of I M Bb N4 FA pT zj J4;generalize PC.map (Value.int .u8)=PM at*
   rcases cnd with ⟨rfl,rfl,k3,k4⟩ | ⟨rfl,k3,k4⟩ | ⟨rfl,rfl,k4⟩
   all_goals
    rw[k4] at hpm;clear k4
    repeat' first|simp(disch:=try exact yj) only[go_sem, *,cJ,cG,cH,cI,Bool.not_true,Bool.not_false] | (apply xs<;>intro _)<;>try omega
    refine ih (N-(i+1)) _ _ _ qJ ⟨i+1,d4,C4,by omega,rfl,?_⟩;clear ih ae4 aqW;simp(disch:=try exact yj) only[go_sem, *]
    first|exact J5 _ _ |exact⟨rfl,J5 _ _⟩ |trace_state
  ·have e7: ¬ (i:Int)<N:=by omega
   obtain rfl:i=N:=by omega
   have gW:=I.T.st.at I.ae3;rw[I.aBl,hsW] at gW;have wz:=Lv I.T.st.wf (I.T.st.at M.mem) (I.T.st.at M.words) (by rw[hsW];exact rP);rw[hsW] at wz;clear ih VN hrd zR hOf aau aeF afg m5 m7 hnd rn
   repeat' first|simp(disch:=try exact yj) only[go_sem, *,Ez,cJ,cG,cH,cI,Bool.not_true,Bool.not_false] | (apply xs<;>intro _)<;>try omega
   refine jg (wz) ?_;rintro y ha na ⟨rfl,gN,ka,wa,la⟩;replace gW:ha.get g0=row (s5.W.map (.int .u64)):=ka _ _ gW;clear wz FA pT zj M Bb I
   repeat' first|simp(disch:=try exact yj) only[go_sem, *,cJ,cG,cH,cI,Bool.not_true,Bool.not_false] | (apply xs<;>intro _)<;>try omega
   clear hi hlt e7 m8 m9 la;refine a_ (fun t m h' k'=>∃ (i:Nat),i≤s5.W.length∧t=s5.W.length-i∧m.n=209∧m.fF=[]∧m.get 12 = .slice (some ⟨g0,0,none⟩) s5.W.length g0c∧m.get 22 = .slice (some ⟨n',0,none⟩) s5.W.length s5.W.length∧m.get 23=I6 i∧h'=ha∧k'=na) s5.W.length ?_ ?_
   ·refine⟨0,by omega,rfl,?_⟩;simp(disch:=try exact yj) only[go_sem, *]
   ·clear m1 m2 m3 m4 m6;rintro t m h' k' ih ⟨j,hj,rfl,m1,m2,m3,m4,m5,rfl,rfl⟩;by_cases hlt:j<s5.W.length
    ·have e7:(j:Int)<s5.W.length:=by omega
     have PG:(j:Int)+1=((j+1:Nat):Int):=by omega
     obtain⟨u,hu⟩:∃ u:Int,(s5.W.map (Value.int .u64))[j]? = some (U6 u):=⟨s5.W[j],by rw[List.getElem?_map,List.getElem?_eq_getElem hlt];rfl⟩;have rQ:(s5.W.map (Value.int .u64)).length=s5.W.length:=List.length_map ..;generalize s5.W.map (Value.int .u64)=WV at*;generalize s5.W.length=wl at*
     repeat' first|simp(disch:=try exact yj) only[go_sem, *,cJ,cG,cH,cI,Bool.not_true,Bool.not_false] | (apply xs<;>intro _)<;>try omega | ((with_reducible refine b8 25 ?_);refine dw 209 25 aoy (by first | (simp only[go_sem, *];done)|rfl) (by kernel_rfl) (by kernel_rfl) ?_)
     refine ih (wl-(j+1)) _ _ _ qJ ⟨j+1,by omega,rfl,?_⟩;clear ih gN gW;simp(disch:=try exact yj) only[go_sem, *]
    ·have e7: ¬ (j:Int)<s5.W.length:=by omega
     clear ih gN gW
     repeat' first|simp(disch:=try exact yj) only[go_sem, *,sJ,cJ,cG,cH,cI,Bool.not_true,Bool.not_false] | (apply xs<;>intro _)<;>try omega
end
end Go.Proofs.YtofmbmclopgldaaGreat
namespace Go.Proofs.YtofmbmclopgldaaGreat
open Go.Am Go.Proofs.Tryz
theorem LK:OU prog (gG [(16,BN)]) 3000 10=true:=by kernel_rfl
theorem aaK:bG prog 10 sJ:=Iq (aV (.cons yM .nil)) bU ((II _ _ _ _).symm.trans LK)
theorem LL:OU prog (gG [(16,BN)]) 6000 36=true:=by kernel_rfl
theorem aaL:bG prog 36 sJ:=Iq (aV (.cons yM .nil)) bU ((II _ _ _ _).symm.trans LL)
theorem atp:cU prog OB:=aV (.cons K_ (.cons Uq (.cons Ur (.cons Zr (.cons aqV (.cons Ux (.cons Uw (.cons Cf (.cons aeR (.cons aeO (.cons yM (.cons afu (.cons aq6 (.cons EF (.cons EG (.cons PV (.cons La (.cons yx (.cons Zz (.cons Jf (.cons afK (.cons afL (.cons afU (.cons afV (.cons afM (.cons afN (.cons afO (.cons ZW (.cons afP (.cons US (.cons ZY (.cons ZZ (.cons UT (.cons aaK (.cons aaL .nil)))))))))))))))))))))))))))))))))))
end Go.Proofs.YtofmbmclopgldaaGreat
namespace Go.Proofs.YtofmbmclopgldaaGreat
open Go.Am Go.RowKit
theorem VF:Tryz.prog.cellsOf 27=16:=by kernel_rfl
theorem VG:Tryz.prog.cellsOf 24=3:=by kernel_rfl
theorem VH:Tryz.prog.cellsOf 25=6:=by kernel_rfl
theorem VI:Tryz.prog.cellsOf 22=1:=by kernel_rfl
theorem zm:Tryz.prog.cellsOf 3=1:=by kernel_rfl
theorem Rp:Tryz.prog.cellsOf 5=1:=by kernel_rfl
theorem VJ:Tryz.prog.cellsOf 57=1:=by kernel_rfl
theorem VK:Tryz.prog.bytesOf 57=8:=by kernel_rfl
theorem Fm:Tryz.prog.cellTypes Tryz.prog.depth 27=some [3,3,5,3,5,3,22,3,3,3,3,3,3,3,3,3]:=by kernel_rfl
theorem aaM{α:Type}{cs:List α}(h:cs.length=16):∃ c0 c1 c2 c3 c4 c5 c6 c7 c8 c9 RV L9 IX Pn Xb Xc,cs=[c0,c1,c2,c3,c4,c5,c6,c7,c8,c9,RV,L9,IX,Pn,Xb,Xc]:=by
 match cs,h with
 | [c0,c1,c2,c3,c4,c5,c6,c7,c8,c9,RV,L9,IX,Pn,Xb,Xc],_=>exact⟨c0,c1,c2,c3,c4,c5,c6,c7,c8,c9,RV,L9,IX,Pn,Xb,Xc,rfl⟩
section
variable {H:Type} {enc:TypeId×Value→H} {w:World} {base:Nat} {held:Bool}
theorem eu{fuel:Nat}{t:TypeId}{k:IntKind}{c:Value}{y:DataW H×List MemPlace}(ht:Tryz.prog.underlying t=some (.int k))(h:DataW.trod enc Tryz.prog w base (fun _=>true) held fuel t [c]=some y):∃ n,c = .int k n∧(Lit.int k n).wf=true:=by
 obtain⟨n,e,hw⟩:=trod_int ht h;simp only[List.cons.injEq,and_true] at e;exact⟨n,e,hw⟩
theorem Fo{fuel:Nat}{c0 c1 c2 c3 c4 c5:Value}{y:DataW H×List MemPlace}(h:DataW.trod enc Tryz.prog w base (fun _=>true) held fuel 25 [c0,c1,c2,c3,c4,c5]=some y):
  ∃ t0 t1 t2 t3 t4 t5,(c0 = .int .i64 t0∧(Lit.int .i64 t0).wf=true)∧(c1 = .int .i64 t1∧(Lit.int .i64 t1).wf=true)∧(c2 = .int .i64 t2∧(Lit.int .i64 t2).wf=true)∧(c3 = .int .i64 t3∧(Lit.int .i64 t3).wf=true)∧(c4 = .int .i64 t4∧(Lit.int .i64 t4).wf=true)∧(c5 = .int .i64 t5∧(Lit.int .i64 t5).wf=true):=by
 obtain⟨-,fuel',ha⟩:=trod_array Tryz.underlying25 h;rw[zm] at ha;obtain⟨y0,h0⟩:=ha 0 qJ;obtain⟨y1,h1⟩:=ha 1 qJ;obtain⟨y2,h2⟩:=ha 2 qJ;obtain⟨y3,h3⟩:=ha 3 qJ;obtain⟨y4,h4⟩:=ha 4 qJ;obtain⟨y5,h5⟩:=ha 5 qJ;obtain⟨t0,p0⟩:=eu Tryz.underlying3 h0;obtain⟨t1,p1⟩:=eu Tryz.underlying3 h1;obtain⟨t2,p2⟩:=eu Tryz.underlying3 h2;obtain⟨t3,p3⟩:=eu Tryz.underlying3 h3;obtain⟨t4,p4⟩:=eu Tryz.underlying3 h4;obtain⟨t5,p5⟩:=eu Tryz.underlying3 h5;exact⟨t0,t1,t2,t3,t4,t5,p0,p1,p2,p3,p4,p5⟩
theorem Rq{v:Value}{d:DataW H}{p:List MemPlace}{base':Nat}(hok:Value.okWide Tryz.prog w .any base' 27 v)(h:DataW.Trod enc Tryz.prog w base (fun _=>true) held 27 v d p)(hz:∀ n∈d.weights Tryz.prog 27,n≤reachBytes):
  ∃ th sl en bu kd dn t0 t1 t2 t3 t4 t5 lo tr ba s' vs s xs,v = .agg ⟨[.int .i64 th,.int .i64 sl,.int .u8 en,.int .i64 bu,.int .u8 kd,.int .i64 dn,s',.int .i64 t0,.int .i64 t1,.int .i64 t2,.int .i64 t3,.int .i64 t4,.int .i64 t5,.int .i64 lo,.int .i64 tr,.int .i64 ba]⟩∧
   rq vs w∧aD (iN vs) s s'∧aN .u64 (oY vs) s xs∧xs.length≤reachBytes∧(∀ n∈xs,(Lit.int .u64 n).wf=true)∧
   ((Lit.int .i64 th).wf=true∧(Lit.int .i64 sl).wf=true∧(Lit.int .u8 en).wf=true∧(Lit.int .i64 bu).wf=true∧(Lit.int .u8 kd).wf=true∧(Lit.int .i64 dn).wf=true)∧
   ((Lit.int .i64 t0).wf=true∧(Lit.int .i64 t1).wf=true∧(Lit.int .i64 t2).wf=true∧(Lit.int .i64 t3).wf=true∧(Lit.int .i64 t4).wf=true∧(Lit.int .i64 t5).wf=true)∧
   ((Lit.int .i64 lo).wf=true∧(Lit.int .i64 tr).wf=true∧(Lit.int .i64 ba).wf=true)∧(∀ a n c,s = .slice a n c→n≤c∧c<aA):=by
 unfold Value.okWide at hok;rw[Tryz.underlying27] at hok;obtain⟨⟨cs⟩,rfl,hsz,ts,hts,-,hcell⟩:=hok;rw[Fm] at hts;obtain rfl:=Option.some.inj hts;rw[VF] at hsz;obtain⟨c0,c1,c2,c3,c4,c5,c6,c7,c8,c9,RV,L9,IX,Pn,Xb,Xc,e⟩:=aaM hsz;subst e;obtain⟨fuel,h⟩:=h;obtain⟨-,fuel',parts,hp,ha⟩:=oZ Tryz.underlying27 h;obtain⟨y0,-,h0⟩:=ha 0 _ rfl;obtain⟨y1,-,h1⟩:=ha 1 _ rfl;obtain⟨y2,-,h2⟩:=ha 2 _ rfl;obtain⟨y3,-,h3⟩:=ha 3 _ rfl;obtain⟨y4,q4,h4⟩:=ha 4 _ rfl;obtain⟨y5,-,h5⟩:=ha 5 _ rfl;obtain⟨y6,-,h6⟩:=ha 6 _ rfl;obtain⟨y7,-,h7⟩:=ha 7 _ rfl;obtain⟨y8,-,h8⟩:=ha 8 _ rfl;simp only[zm,Rp,VG,VH] at h0 h1 h2 h3 h4 h5 h6 h7 h8;obtain⟨th,rfl,w0⟩:=eu Tryz.underlying3 h0;obtain⟨sl,rfl,w1⟩:=eu Tryz.underlying3 h1;obtain⟨en,rfl,w2⟩:=eu Tryz.underlying5 h2;obtain⟨bu,rfl,w3⟩:=eu Tryz.underlying3 h3;obtain⟨t0,t1,t2,t3,t4,t5,⟨rfl,x0⟩,⟨rfl,x1⟩,⟨rfl,x2⟩,⟨rfl,x3⟩,⟨rfl,x4⟩,⟨rfl,x5⟩⟩:=Fo h5;obtain⟨lo,rfl,w6⟩:=eu Tryz.underlying3 h6;obtain⟨tr,rfl,w7⟩:=eu Tryz.underlying3 h7;obtain⟨ba,rfl,w8⟩:=eu Tryz.underlying3 h8;obtain⟨-,fuel2,atq,hp2,hb⟩:=oZ Tryz.underlying24 h4;obtain⟨z0,-,g0⟩:=hb 0 _ rfl;obtain⟨z1,-,g1⟩:=hb 1 _ rfl;obtain⟨z2,r2,g2⟩:=hb 2 _ rfl;simp only[zm,Rp,VI] at g0 g1 g2;obtain⟨kd,rfl,w4⟩:=eu Tryz.underlying5 g0;obtain⟨dn,rfl,w5⟩:=eu Tryz.underlying3 g1;obtain⟨vs,s,s',xs,e,hvs,Kr,hin,hlen,hwf,hcp⟩:=open_ints (base':=base') Tryz.underlying22 Tryz.underlying57 VJ (by rw[VK];omega) g2
  (fun v hv=>by
   obtain⟨u,hu,hc⟩:=hcell 6 v hv;simp at hu;subst hu;exact hc)
  (fun n hn=>by
   refine hz n ?_;have e1:=o7 (P:=Tryz.prog) (j:=2) Tryz.underlying24 rfl r2 n hn;rw[←hp2] at e1;have e2:=o7 (P:=Tryz.prog) (j:=4) Tryz.underlying27 rfl q4 n e1;rw[←hp] at e2;exact e2)
 cases e;exact⟨th,sl,en,bu,kd,dn,t0,t1,t2,t3,t4,t5,lo,tr,ba,_,vs,s,xs,rfl,hvs,Kr,hin,hlen,hwf,⟨w0,w1,w2,w3,w4,w5⟩,⟨x0,x1,x2,x3,x4,x5⟩,⟨w6,w7,w8⟩,hcp⟩
end
end Go.Proofs.YtofmbmclopgldaaGreat
