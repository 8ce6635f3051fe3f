/-
A part.
-/
import Derived.Test.YtofmbmclopgldaaGreatSS5
import Derived.Test.YtofmbmclopgldaaGreatSOA
import Derived.Test.YtofmbmclopgldaaGreatAmZ
import Derived.Test.YtofmbmclopgldaaGreatOut1
set_option linter.all false
set_option maxRecDepth 100000
set_option maxHeartbeats 32000000
namespace Go.Proofs.YtofmbmclopgldaaGreat
open Go.Am Go.Proofs.Tryz
theorem Rn{E:Ev}{A:List (List Int)}{s s':Sd}{i:Nat}(h:Laid E A s i s'):iT s.L s'.L:=by
 induction h with
 |zero=>exact iT.refl
 |succ h e ih=>
  refine ih.trans ?_;cases e with
  |has h=>exact iT.refl
  |none h k=>exact k.log
  | @laid s3 t h ht k=>
   refine k.log.trans ?_;have hl:∀ (s:Sd) (v key tt:Int) (m:Nat),iT s.L (s.E6 E v key tt m).L:=fun s v key tt m=>by
    induction m with
    |zero=>exact iT.refl
    |succ m ih=>exact ih.trans (iT.refl.acc.acc)
   have hw:∀ (s:Sd) (tt key val:Int),iT s.L (s.wr E 0 tt key val 1).L:=fun s tt key val=>iT.refl.acc.acc.acc;exact(hw s3 _ _ _).trans (hl _ _ _ _ _)
structure SI(E:Ev)(mV bq n3 fa fb:Nat)(th v key:Int)(kb:Nat)(s:Sd)(ss:SS)(d:Rl→Nat)(C:Rl→Option aj)(h:PT aj)(n:Nat):Prop where
 T:Tw E s s d C h n
 k:s.k≤kb
 log:iT [] s.L
 ok:rN E ss
 Mc:d (70,0)=mV
 Md:d qB=bq
 zi:d (230,0)=n3
 zj:C (230,0)=row [pt mV,pt bq]
 zk:d (231,0)=fa
 CM:C (231,0)=row (kV mV fa th key ss)
 HW:d (232,0)=fb
 CN:C (232,0)=row (kW bq th v key ss)
section
variable {E:Ev} {mV bq n3 fa fb:Nat} {th v key:Int} {i:Nat} {s:Sd} {ss:SS} {d:Rl→Nat} {C:Rl→Option aj} {h:PT aj} {n:Nat}
theorem SI.keep(I:SI E mV bq n3 fa fb th v key i s ss d C h n){h':PT aj}{n':Nat}(k:Kept h h')(w:bQ h' n')(l:n≤n'):SI E mV bq n3 fa fb th v key i s ss d C h' n':=
 ⟨I.T.own (Nz.keep (X:=[]) (Y:=[]) I.T.st k w l) (by simp) (by simp),I.k,I.log,I.ok,I.Mc,I.Md,I.zi,I.zj,I.zk,I.CM,I.HW,I.CN⟩
theorem SI.atd(I:SI E mV bq n3 fa fb th v key i s ss d C h n){s':Sd}{d':Rl→Nat}{C':Rl→Option aj}{h':PT aj}{n':Nat}(T':Tw E s' s' d' C' h' n')(W:Wm 220 d C d' C')(hk:s'.k≤s.k+60)(hl:iT s.L s'.L):SI E mV bq n3 fa fb th v key (i+60) s' ss d' C' h' n':=by
 have q:=fun r h1 h2=>W.own r h1 h2;have RT:=I.k;exact⟨T',by omega,I.log.trans hl,I.ok,W.a.trans I.Mc,W.b.trans I.Md,(q (230,0) qi qi).1.trans I.zi,(q (230,0) qi qi).2.trans I.zj,(q (231,0) qi qi).1.trans I.zk,(q (231,0) qi qi).2.trans I.CM,(q (232,0) qi qi).1.trans I.HW,(q (232,0) qi qi).2.trans I.CN⟩
theorem SI.step(I:SI E mV bq n3 fa fb th v key i s ss d C h n){ss':SS}{s':Sd}{d1 d2:Rl→Nat}{C1 C2:Rl→Option aj}{h1 h2:PT aj}{n1 n2:Nat}(hss:rN E ss')(hk:s'.k≤s.k+1)(hl:iT s.L s'.L)
  (N1:Nz n d C ((231,0)::mA) [(2,0)] d1 C1 h1 n1) (c1:C1 (231,0)=row (kV mV fa th key ss')) (N2:Nz n1 d1 C1 ((232,0)::mB) [(103,0)] d2 C2 h2 n2) (c2:C2 (232,0)=row (kW bq th v key ss')) (T':Tw E s' s' d2 C2 h2 n2):SI E mV bq n3 fa fb th v key (i+1) s' ss' d2 C2 h2 n2:=by
 have RT:=I.k;exact⟨T',by omega,I.log.trans hl,hss,(N2.dd (70,0) qi).trans ((N1.dd (70,0) qi).trans I.Mc),(N2.dd qB qi).trans ((N1.dd qB qi).trans I.Md),(N2.dd (230,0) qi).trans ((N1.dd (230,0) qi).trans I.zi),(N2.cc (230,0) qi).trans ((N1.cc (230,0) qi).trans I.zj),(N2.dd (231,0) qi).trans ((N1.dd (231,0) qi).trans I.zk),(N2.cc (231,0) qi).trans c1,(N2.dd (232,0) qi).trans ((N1.dd (232,0) qi).trans I.HW),c2⟩
end
theorem Ro:Am.TE prog 60 (.slice none 0 0) none (some (.int .i64 0)) none = .pure (.value (.slice none 0 0)):=by kernel_rfl
theorem VE{q cap len m:Nat}(hc:cap<4611686018427387904)(h1:m≤len)(h2:len≤cap):Am.TE prog 60 (.slice (some ⟨q,0,none⟩) len cap) none (some (.int .i64 m)) none = .pure (.value (.slice (some ⟨q,0,none⟩) m cap)):=by
 rw[Am.KG,show vV prog 60=some (none,3) by simp only[go_sem],Oi,BJ,BK,show asNat (.int .i64 (m:Int))=some m by simp(disch:=omega) only[go_sem],Oj hc,Nat.ble_eq_true_of_le (show m≤cap by omega),cond_true];cases Nat.beq cap 0<;>rfl
section
variable {h:PT aj} {n:Nat}
theorem CO(hW:bQ h n){th sl en bu kd dn t0 t1 t2 t3 t4 t5 lo tr ba:Int}{s:Value}{xs:List Int}(hs:aN .u64 h s xs)(hps:∀ x∈xs,0≤x∧x<18446744073709551616)(hl:xs.length<1000000000000000)(vC:0≤kd∧kd<256)(LN:0≤en∧en<256)
  {u1 u2:Value} {A1 A2:List (List Int)} {p1 p2:Nat} (Zw:o9 ksL h p1 u1 A1) (hA2:o9 ksP h p2 u2 A2) {xt xv xk:Int} (hxv : -9223372036854775808≤xv∧xv≤9223372036854775807) (E0:0≤xk∧xk<18446744073709551616):
  cE prog OB 4 [.agg ⟨[I6 th,I6 sl,U8 en,I6 bu,U8 kd,I6 dn,s,I6 t0,I6 t1,I6 t2,I6 t3,I6 t4,I6 t5,I6 lo,I6 tr,I6 ba]⟩,u1,.agg ⟨[I6 xt,I6 xv,U6 xk]⟩,u2] h n fun v h' n'=>v = .bool true:=by
 obtain⟨sa,sc,rfl,-⟩:=hs.len;obtain⟨a1,c1,rfl⟩:∃ a c,u1 = .slice a A1.length c:=by
  rcases Zw.2 with ⟨rfl,rfl⟩ | ⟨cp,rfl,-⟩
  ·exact⟨none,0,rfl⟩
  ·exact⟨_,_,rfl⟩
 obtain⟨m,atf,hmA,hmin⟩:∃ m:Nat,m≤60∧m≤A2.length∧(if (60:Int)<A2.length then 60 else (A2.length:Int))=m:=⟨min A2.length 60,by omega,by omega,by split<;>omega⟩;obtain⟨a2,c2,rfl,hxa,hsv⟩:∃ a c,u2 = .slice a A2.length c∧(0<m→a=some ⟨p2,0,none⟩)∧Am.TE prog 60 (.slice a A2.length c) none (some (.int .i64 m)) none = .pure (.value (.slice a m c)):=by
  rcases hA2.2 with ⟨rfl,rfl⟩ | ⟨cp,rfl,hcp,ati,-⟩
  ·obtain rfl:m=0:=by simpa using hmA
   exact⟨none,0,rfl,fun q=>absurd q (by simp),Ro⟩
  ·exact⟨_,_,rfl,fun _=>rfl,VE ati hmA hcp⟩
 refine ay (N:=126) func4 rfl rfl fun z hP hO hro hN hQ=>?_
 repeat' first|simp(disch:=try exact yj) only[go_sem, *] | (apply xs<;>intro _)<;>try omega
 generalize Hy:(h.set n _).set (n+1) _=h1;have W1:bQ h1 (n+1+1):=by
  rw[←Hy]
  (repeat refine bQ.set' qJ ?_);first|assumption|exact bQ.mono (by assumption) qJ
 have K1:Kept h h1:=by
  rw[←Hy]
  repeat refine Kept.set' hW qJ ?_
  exact Kept.refl _
 have gx1:h1.get (n+1)=row [I6 xt,I6 xv,U6 xk]:=by rw[←Hy];exact aI
 clear Hy
 repeat' first|simp(disch:=try exact yj) only[go_sem, *] | (apply xs<;>intro _)<;>try omega
 refine jg (VA (St.all W1) (Fz.all W1) (Nat.le_refl _) (hs.keep K1) hps hl vC LN) ?_;rintro v h2 n2 ⟨d2,C2,th',sl',en',bu',kd',dn',t0',t1',t2',t3',t4',t5',lo',tr',ba',s2,uC,rfl,sm,tM,N2⟩;have K2:=(N2.fz _ _ (Nat.le_refl _) (Fz.all W1)).kept N2.st;have W2:=N2.st.wf;have l2:=N2.le;have K02:=K1.trans K2;have gx2:=K2 _ _ gx1;clear N2 K1 K2 gx1 W1 hs;obtain⟨sa2,sc2,rfl,-⟩:=tM.len
 repeat' first|simp(disch:=try exact yj) only[go_sem, *] | (apply xs<;>intro _)<;>try omega
 refine jg (aaG W2 tM sm) ?_;rintro v h3 n3 ⟨E,d3,C3,rfl,K3,hn3,T3,hPO,hV5⟩;have KE:=K02.trans K3;have gxE:=K3 _ _ gx2;clear K02 K3 gx2 W2 tM sm;have gx3:=(T3.fz.kept T3.st) _ _ gxE
 repeat' first|simp(disch:=try exact yj) only[go_sem, *] | (apply xs<;>intro _)<;>try omega
 rw[PT.set_set];obtain⟨d4,C4,N4,zi,zj⟩:∃ d4 C4,Nz n3 d3 C3 [(230,0)] [(230,0)] d4 C4 (h3.set n3 (row [pt (d3 (70,0)),pt (d3 qB)])) (n3+1)∧d4 (230,0)=n3∧C4 (230,0)=row [pt (d3 (70,0)),pt (d3 qB)]:=
  ⟨_,_,Nz.new qi (Nat.le_refl _) (Nat.le_succ _) (T3.st.new (230,0) _ (Nat.le_refl _) (Nat.lt_succ_self _)),aq,aq⟩
 have T4:=T3.own N4 qi qi;have ly:=Vn T4 (by show (0:Nat)≤1000;omega) (Zw.keep KE);have Mc:=N4.dd (70,0) qi;have Md:=N4.dd qB qi;unfold two at ly;rw[Mc,Md] at ly;generalize h3.set n3 _=h4 at*;refine jg (ly) ?_;rintro v h5 n5 ⟨rfl,s5,d5,C5,hL5,hk5,T5,M5⟩;have aaI:=Rn hL5;have aHQ:s5.k≤720:=by have:(Sd.yL E).k=0:=rfl;omega
 have HP:=M5.a.trans Mc;have Fa:=M5.b.trans Md;have aaJ:=M5.own (230,0) qi qi;have JE:=aaJ.1.trans zi;have JF:=aaJ.2.trans zj;have pT:=T5.st.at JF;rw[JE] at pT;have gx5:=(T5.fz.kept T5.st) _ _ gxE;clear ly hL5 M5 aaJ hk5 T3 T4 N4 zi zj gx3 Mc Md;generalize d3 (70,0)=mV at*;generalize d3 qB=bq at*;have an:=ahm T5 (231,0) qi (th:=xt) (key:=xk) hxv;rw[HP] at an
 repeat' first|simp(disch:=try exact yj) only[go_sem, *] | (apply xs<;>intro _)<;>try omega
 refine jg (an) ?_;rintro v h6 n6 (⟨hno,rfl,d6,C6,N6⟩ | ⟨hyes,d6,C6,rfl,N6,CM⟩)
 ·have T6:=T5.own N6 (by simp) (by simp);have A8:=(N6.dd (230,0) (by simp)).trans JE;have A_:=(N6.cc (230,0) (by simp)).trans JF;have Fc:=(N6.dd (70,0) (by simp)).trans HP;have zc:=(N6.dd qB (by simp)).trans Fa;have pT:=T6.st.at A_;rw[A8] at pT;have gx6:=(T6.fz.kept T6.st) _ _ gxE;have bn:=XE T6 (232,0) qi (th:=xt) (key:=xk) hxv;rw[zc] at bn;clear an
  repeat' first|simp(disch:=try exact yj) only[go_sem, *] | (apply xs<;>intro _)<;>try omega
  refine jg (bn) ?_;rintro v h7 n7 (⟨-,rfl,d7,C7,N7⟩ | ⟨hyes,-⟩)
  rotate_left
  ·exact absurd hyes hno
  clear bn;have T7:=T6.own N7 (by simp) (by simp);have JG:=(N7.dd (230,0) (by simp)).trans A8;have JH:=(N7.cc (230,0) (by simp)).trans A_;have HQ:=(N7.dd (70,0) (by simp)).trans Fc;have CF:=(N7.dd qB (by simp)).trans zc;have ahy:=T7.st.at JH;rw[JG] at ahy;obtain⟨AA,XK⟩:=aaI;have st:=HO T7 qJ (A:=AA) (by rw[XK];rfl);unfold two at st;rw[HQ,CF] at st;clear XK pT gx5 gx6 N7 N6 T6 T5
  repeat' first|simp(disch:=try exact yj) only[go_sem, *,cJ,cG,cH,cI,Bool.not_true,Bool.not_false] | (apply xs<;>intro _)<;>try omega
  refine a_ (fun t m' h' n'=>t=0∧m'.n=126∧m'.fF=[]∧m'.get 9=pt n3∧m'.get 13 = .pointer none∧h7=h'∧n7=n') 0 ?_ ?_
  ·refine⟨rfl,?_⟩;simp(disch:=try exact yj) only[go_sem, *]
   first|exact⟨rfl,rfl⟩ |trace_state
  ·rintro t m' h' n' ih ⟨rfl,m1,m2,m3,m4,rfl,rfl⟩;clear ih
   repeat' first|simp(disch:=try exact yj) only[go_sem, *,cJ,cG,cH,cI,Bool.not_true,Bool.not_false] | (apply xs<;>intro _)<;>try omega
   refine jg (st) ?_;rintro v20 h20 n20 rfl;clear st
   repeat' first|simp(disch:=try exact yj) only[go_sem, *,sJ,cJ,cG,cH,cI,Bool.not_true,Bool.not_false] | (apply xs<;>intro _)<;>try omega
 ·have T6:=T5.own N6 qi qi;have A8:=(N6.dd (230,0) qi).trans JE;have A_:=(N6.cc (230,0) qi).trans JF;have Fc:=(N6.dd (70,0) qi).trans HP;have zc:=(N6.dd qB qi).trans Fa;have pT:=T6.st.at A_;rw[A8] at pT;have gx6:=(T6.fz.kept T6.st) _ _ gxE;have bn:=XE T6 (232,0) qi (th:=xt) (key:=xk) hxv;rw[zc] at bn;clear an
  repeat' first|simp(disch:=try exact yj) only[go_sem, *] | (apply xs<;>intro _)<;>try omega
  refine jg (bn) ?_;rintro v h7 n7 (⟨hno,-⟩ | ⟨-,d7,C7,rfl,N7,CN⟩)
  ·exact absurd hyes hno
  clear bn;have T7:=T6.own N7 qi qi;have JG:=(N7.dd (230,0) qi).trans A8;have JH:=(N7.cc (230,0) qi).trans A_;have HQ:=(N7.dd (70,0) qi).trans Fc;have CF:=(N7.dd qB qi).trans zc;have XL:=(N7.cc (231,0) qi).trans CM;have XM:=N7.dd (231,0) qi;generalize d6 (231,0)=fa at*;generalize hfb:d7 (232,0)=fb at*
  repeat' first|simp(disch:=try exact yj) only[go_sem, *,cJ,cG,cH,cI,Bool.not_true,Bool.not_false] | (apply xs<;>intro _)<;>try omega
  have I0:SI E mV bq n3 fa fb xt xv xk 720 s5 (SS.new xv) d7 C7 h7 n7:=⟨T7,by omega,aaI,rN.new hyes.2,HQ,CF,JG,JH,XM,XL,hfb,CN⟩;clear T7 aaI HQ CF JG JH XM XL hfb CN N7 T6 A8 A_ Fc zc gx6 CM pT N6 T5 HP Fa JE JF gx5;refine a_ (fun t m' h' n'=>∃ (i:Nat) (si:Sd) (ss:SS) (d':Rl→Nat) (C':Rl→Option aj),i≤300∧t=300-i∧m'.n=126∧m'.fF=[]∧m'.get 3 = .slice a2 m c2∧m'.get 9=pt n3∧m'.get 11=pt fa∧m'.get 13=pt fb∧m'.get 15=I6 i∧SI E mV bq n3 fa fb xt xv xk (720+61*i) si ss d' C' h' n') 300 ?_ ?_
  ·refine⟨0,s5,SS.new xv,d7,C7,by omega,rfl,?_⟩;simp(disch:=try exact yj) only[go_sem, *]
   first|exact⟨rfl,I0⟩ |exact I0|rfl |trace_state
  ·clear I0;rintro t m' h' n' ih ⟨i,si,ss,d8,C8,hi,rfl,m1,m2,m3,m4,m5,m6,m7,I⟩;by_cases hlt:i<300
   ·have e7:(i:Int)<300:=by omega
    have PG:(i:Int)+1=((i+1:Nat):Int):=by omega
    have pT:=I.T.st.at I.zj;rw[I.zi] at pT;have pk:=agJ I.T hPO (by have:=I.k;omega) (at':=(i:Int)) (c:=c2) (hA2.keep KE) hmA atf hxa;unfold two at pk;rw[I.Mc,I.Md] at pk
    repeat' first|simp(disch:=try exact yj) only[go_sem, *,cJ,cG,cH,cI,Bool.not_true,Bool.not_false] | (apply xs<;>intro _)<;>try omega
    refine jg (pk) ?_;rintro v9 h9 n9 ⟨rfl,s9,d9,C9,⟨CU,k92⟩,kK,kl,T9,W9⟩;have I9:SI E mV bq n3 fa fb xt xv xk (720+61*i+60) s9 ss d9 C9 h9 n9:=I.atd T9 W9 qJ kl;have hk9:=I9.k;clear pk pT;have sf:=HT I9.T.st I9.ok (r:=(231,0)) (r':=(232,0)) (mV:=mV) (bq:=bq) (th:=xt) (v:=xv) (key:=xk) (by rw[I9.zk];exact I9.CM) I9.CN;rw[I9.zk,I9.HW] at sf
    repeat' first|simp(disch:=try exact yj) only[go_sem, *,cJ,cG,cH,cI,Bool.not_true,Bool.not_false] | (apply xs<;>intro _)<;>try omega
    refine jg (sf) ?_;rintro v10 h10 n10 ⟨rfl,k10,w10,l10⟩;have CV:=I9.keep k10 w10 l10;clear sf;have sa:=aay CV.T (by have:=CV.k;omega) (r:=(231,0)) qi CV.ok hyes.1 E0 (by rw[CV.Mc,CV.zk];exact CV.CM);rw[CV.zk,CV.Mc] at sa
    repeat' first|simp(disch:=try exact yj) only[go_sem, *,cJ,cG,cH,cI,Bool.not_true,Bool.not_false] | (apply xs<;>intro _)<;>try omega
    refine jg (sa) ?_;rintro v11 h11 n11 ⟨rfl,d11,C11,Vx,L9,T11⟩;have sb:=aaB T11 (by have:=CV.k;omega) (r:=(232,0)) qi CV.ok hyes.1 E0 (by rw[(Vx.cc (232,0) qi),Vx.dd qB qi,CV.Md];exact CV.CN);rw[Vx.dd (232,0) qi,CV.HW,Vx.dd qB qi,CV.Md] at sb;clear sa
    repeat' first|simp(disch:=try exact yj) only[go_sem, *,cJ,cG,cH,cI,Bool.not_true,Bool.not_false] | (apply xs<;>intro _)<;>try omega
    refine jg (sb) ?_;rintro UA h12 n12 ⟨rfl,d12,C12,Vy,IX,T12⟩;clear sb;obtain⟨s12,atk,LJ⟩:∃ s' ss',SI E mV bq n3 fa fb xt xv xk (720+61*i+60+1) s' ss' d12 C12 h12 n12:=⟨_,_,CV.step (ss':=SS.step E ss xk (vm s9.W (SS.ad E ss))) CV.ok.step (by split<;>(first|exact Nat.le_succ _ |exact Nat.le_refl _)) (by split<;>(first|exact iT.refl|exact iT.refl.acc)) Vx L9 Vy IX T12⟩;have hpc:=CV.ok.pc;generalize hdd:decide (ss.pc≠0∧(SS.step E ss xk (vm s9.W (SS.ad E ss))).pc=0)=dd at*;clear hdd;have FH:(dd==dd)=true:=by cases dd<;>rfl
    by_cases hp0:ss.pc=0
    ·rw[hp0];clear pT
     repeat' first|simp(disch:=try exact yj) only[go_sem, *,FH,cJ,cG,cH,cI,Bool.not_true,Bool.not_false] | (apply xs<;>intro _)<;>try omega
     have pT:=LJ.T.st.at LJ.zj;rw[LJ.zi] at pT;have sf:=HT LJ.T.st LJ.ok (r:=(231,0)) (r':=(232,0)) (mV:=mV) (bq:=bq) (th:=xt) (v:=xv) (key:=xk) (by rw[LJ.zk];exact LJ.CM) LJ.CN;rw[LJ.zk,LJ.HW] at sf;refine jg (sf) ?_;rintro v19 h19 n19 ⟨rfl,k19,w19,l19⟩;have Fk:=LJ.keep k19 w19 l19;have Fl:=Fk.T.st.at Fk.zj;rw[Fk.zi] at Fl;obtain⟨AA,XK⟩:=Fk.log;have st:=HO Fk.T (by have:=Fk.k;omega) (A:=AA) (by rw[XK,List.nil_append];rfl);unfold two at st;rw[Fk.Mc,Fk.Md] at st;clear sf pT XK
     repeat' first|simp(disch:=try exact yj) only[go_sem, *,cJ,cG,cH,cI,Bool.not_true,Bool.not_false] | (apply xs<;>intro _)<;>try omega
     refine jg (st) ?_;rintro v20 h20 n20 rfl;clear st Fl
     repeat' first|simp(disch:=try exact yj) only[go_sem, *,sJ,cJ,cG,cH,cI,Bool.not_true,Bool.not_false] | (apply xs<;>intro _)<;>try omega
    ·repeat' first|simp(disch:=try exact yj) only[go_sem, *,FH,cJ,cG,cH,cI,Bool.not_true,Bool.not_false] | (apply xs<;>intro _)<;>try omega
     have I13:=LJ;rw[show 720+61*i+60+1=720+61*(i+1) by omega] at I13;refine ih (300-(i+1)) _ _ _ qJ ⟨i+1,s12,atk,d12,C12,by omega,rfl,?_⟩;clear ih LJ CV I9 I;simp(disch:=try exact yj) only[go_sem, *]
     first|exact⟨rfl,I13⟩ |exact I13 |trace_state
   ·have e7: ¬ (i:Int)<300:=by omega
    clear ih;have hki:=I.k
    repeat' first|simp(disch:=try exact yj) only[go_sem, *,cJ,cG,cH,cI,Bool.not_true,Bool.not_false] | (apply xs<;>intro _)<;>try omega
    have pT:=I.T.st.at I.zj;rw[I.zi] at pT;have sf:=HT I.T.st I.ok (r:=(231,0)) (r':=(232,0)) (mV:=mV) (bq:=bq) (th:=xt) (v:=xv) (key:=xk) (by rw[I.zk];exact I.CM) I.CN;rw[I.zk,I.HW] at sf;refine jg (sf) ?_;rintro v19 h19 n19 ⟨rfl,k19,w19,l19⟩;have Fk:=I.keep k19 w19 l19;have Fl:=Fk.T.st.at Fk.zj;rw[Fk.zi] at Fl;obtain⟨AA,XK⟩:=Fk.log;have st:=HO Fk.T (by have:=Fk.k;omega) (A:=AA) (by rw[XK,List.nil_append];rfl);unfold two at st;rw[Fk.Mc,Fk.Md] at st;clear sf pT XK
    repeat' first|simp(disch:=try exact yj) only[go_sem, *,cJ,cG,cH,cI,Bool.not_true,Bool.not_false] | (apply xs<;>intro _)<;>try omega
    refine jg (st) ?_;rintro v20 h20 n20 rfl;clear st Fl
    repeat' first|simp(disch:=try exact yj) only[go_sem, *,sJ,cJ,cG,cH,cI,Bool.not_true,Bool.not_false] | (apply xs<;>intro _)<;>try omega
end
end Go.Proofs.YtofmbmclopgldaaGreat
namespace Go.Proofs.YtofmbmclopgldaaGreat
open Go.Am Go.Proofs.Tryz
theorem LK:OU prog (gG [(16,BN)]) 3000 10=true:=by kernel_rfl
theorem aaK:bG prog 10 sJ:=Iq (aV (.cons yM .nil)) bU ((II _ _ _ _).symm.trans LK)
theorem LL:OU prog (gG [(16,BN)]) 6000 36=true:=by kernel_rfl
theorem aaL:bG prog 36 sJ:=Iq (aV (.cons yM .nil)) bU ((II _ _ _ _).symm.trans LL)
theorem atp:cU prog OB:=aV (.cons K_ (.cons Uq (.cons Ur (.cons Zr (.cons aqV (.cons Ux (.cons Uw (.cons Cf (.cons aeR (.cons aeO (.cons yM (.cons afu (.cons aq6 (.cons EF (.cons EG (.cons PV (.cons La (.cons yx (.cons Zz (.cons Jf (.cons afK (.cons afL (.cons afU (.cons afV (.cons afM (.cons afN (.cons afO (.cons ZW (.cons afP (.cons US (.cons ZY (.cons ZZ (.cons UT (.cons aaK (.cons aaL .nil)))))))))))))))))))))))))))))))))))
end Go.Proofs.YtofmbmclopgldaaGreat
namespace Go.Proofs.YtofmbmclopgldaaGreat
open Go.Am Go.RowKit
theorem VF:Tryz.prog.cellsOf 27=16:=by kernel_rfl
theorem VG:Tryz.prog.cellsOf 24=3:=by kernel_rfl
theorem VH:Tryz.prog.cellsOf 25=6:=by kernel_rfl
theorem VI:Tryz.prog.cellsOf 22=1:=by kernel_rfl
theorem zm:Tryz.prog.cellsOf 3=1:=by kernel_rfl
theorem Rp:Tryz.prog.cellsOf 5=1:=by kernel_rfl
theorem VJ:Tryz.prog.cellsOf 57=1:=by kernel_rfl
theorem VK:Tryz.prog.bytesOf 57=8:=by kernel_rfl
theorem Fm:Tryz.prog.cellTypes Tryz.prog.depth 27=some [3,3,5,3,5,3,22,3,3,3,3,3,3,3,3,3]:=by kernel_rfl
theorem aaM{α:Type}{cs:List α}(h:cs.length=16):∃ c0 c1 c2 c3 c4 c5 c6 c7 c8 c9 RV L9 IX Pn Xb Xc,cs=[c0,c1,c2,c3,c4,c5,c6,c7,c8,c9,RV,L9,IX,Pn,Xb,Xc]:=by
 match cs,h with
 | [c0,c1,c2,c3,c4,c5,c6,c7,c8,c9,RV,L9,IX,Pn,Xb,Xc],_=>exact⟨c0,c1,c2,c3,c4,c5,c6,c7,c8,c9,RV,L9,IX,Pn,Xb,Xc,rfl⟩
section
variable {H:Type} {enc:TypeId×Value→H} {w:World} {base:Nat} {held:Bool}
theorem eu{fuel:Nat}{t:TypeId}{k:IntKind}{c:Value}{y:DataW H×List MemPlace}(ht:Tryz.prog.underlying t=some (.int k))(h:DataW.trod enc Tryz.prog w base (fun _=>true) held fuel t [c]=some y):∃ n,c = .int k n∧(Lit.int k n).wf=true:=by
 obtain⟨n,e,hw⟩:=trod_int ht h;simp only[List.cons.injEq,and_true] at e;exact⟨n,e,hw⟩
theorem Fo{fuel:Nat}{c0 c1 c2 c3 c4 c5:Value}{y:DataW H×List MemPlace}(h:DataW.trod enc Tryz.prog w base (fun _=>true) held fuel 25 [c0,c1,c2,c3,c4,c5]=some y):
  ∃ t0 t1 t2 t3 t4 t5,(c0 = .int .i64 t0∧(Lit.int .i64 t0).wf=true)∧(c1 = .int .i64 t1∧(Lit.int .i64 t1).wf=true)∧(c2 = .int .i64 t2∧(Lit.int .i64 t2).wf=true)∧(c3 = .int .i64 t3∧(Lit.int .i64 t3).wf=true)∧(c4 = .int .i64 t4∧(Lit.int .i64 t4).wf=true)∧(c5 = .int .i64 t5∧(Lit.int .i64 t5).wf=true):=by
 obtain⟨-,fuel',ha⟩:=trod_array Tryz.underlying25 h;rw[zm] at ha;obtain⟨y0,h0⟩:=ha 0 qJ;obtain⟨y1,h1⟩:=ha 1 qJ;obtain⟨y2,h2⟩:=ha 2 qJ;obtain⟨y3,h3⟩:=ha 3 qJ;obtain⟨y4,h4⟩:=ha 4 qJ;obtain⟨y5,h5⟩:=ha 5 qJ;obtain⟨t0,p0⟩:=eu Tryz.underlying3 h0;obtain⟨t1,p1⟩:=eu Tryz.underlying3 h1;obtain⟨t2,p2⟩:=eu Tryz.underlying3 h2;obtain⟨t3,p3⟩:=eu Tryz.underlying3 h3;obtain⟨t4,p4⟩:=eu Tryz.underlying3 h4;obtain⟨t5,p5⟩:=eu Tryz.underlying3 h5;exact⟨t0,t1,t2,t3,t4,t5,p0,p1,p2,p3,p4,p5⟩
theorem Rq{v:Value}{d:DataW H}{p:List MemPlace}{base':Nat}(hok:Value.okWide Tryz.prog w .any base' 27 v)(h:DataW.Trod enc Tryz.prog w base (fun _=>true) held 27 v d p)(hz:∀ n∈d.weights Tryz.prog 27,n≤reachBytes):
  ∃ th sl en bu kd dn t0 t1 t2 t3 t4 t5 lo tr ba s' vs s xs,v = .agg ⟨[.int .i64 th,.int .i64 sl,.int .u8 en,.int .i64 bu,.int .u8 kd,.int .i64 dn,s',.int .i64 t0,.int .i64 t1,.int .i64 t2,.int .i64 t3,.int .i64 t4,.int .i64 t5,.int .i64 lo,.int .i64 tr,.int .i64 ba]⟩∧
   rq vs w∧aD (iN vs) s s'∧aN .u64 (oY vs) s xs∧xs.length≤reachBytes∧(∀ n∈xs,(Lit.int .u64 n).wf=true)∧
   ((Lit.int .i64 th).wf=true∧(Lit.int .i64 sl).wf=true∧(Lit.int .u8 en).wf=true∧(Lit.int .i64 bu).wf=true∧(Lit.int .u8 kd).wf=true∧(Lit.int .i64 dn).wf=true)∧
   ((Lit.int .i64 t0).wf=true∧(Lit.int .i64 t1).wf=true∧(Lit.int .i64 t2).wf=true∧(Lit.int .i64 t3).wf=true∧(Lit.int .i64 t4).wf=true∧(Lit.int .i64 t5).wf=true)∧
   ((Lit.int .i64 lo).wf=true∧(Lit.int .i64 tr).wf=true∧(Lit.int .i64 ba).wf=true)∧(∀ a n c,s = .slice a n c→n≤c∧c<aA):=by
 unfold Value.okWide at hok;rw[Tryz.underlying27] at hok;obtain⟨⟨cs⟩,rfl,hsz,ts,hts,-,hcell⟩:=hok;rw[Fm] at hts;obtain rfl:=Option.some.inj hts;rw[VF] at hsz;obtain⟨c0,c1,c2,c3,c4,c5,c6,c7,c8,c9,RV,L9,IX,Pn,Xb,Xc,e⟩:=aaM hsz;subst e;obtain⟨fuel,h⟩:=h;obtain⟨-,fuel',parts,hp,ha⟩:=oZ Tryz.underlying27 h;obtain⟨y0,-,h0⟩:=ha 0 _ rfl;obtain⟨y1,-,h1⟩:=ha 1 _ rfl;obtain⟨y2,-,h2⟩:=ha 2 _ rfl;obtain⟨y3,-,h3⟩:=ha 3 _ rfl;obtain⟨y4,q4,h4⟩:=ha 4 _ rfl;obtain⟨y5,-,h5⟩:=ha 5 _ rfl;obtain⟨y6,-,h6⟩:=ha 6 _ rfl;obtain⟨y7,-,h7⟩:=ha 7 _ rfl;obtain⟨y8,-,h8⟩:=ha 8 _ rfl;simp only[zm,Rp,VG,VH] at h0 h1 h2 h3 h4 h5 h6 h7 h8;obtain⟨th,rfl,w0⟩:=eu Tryz.underlying3 h0;obtain⟨sl,rfl,w1⟩:=eu Tryz.underlying3 h1;obtain⟨en,rfl,w2⟩:=eu Tryz.underlying5 h2;obtain⟨bu,rfl,w3⟩:=eu Tryz.underlying3 h3;obtain⟨t0,t1,t2,t3,t4,t5,⟨rfl,x0⟩,⟨rfl,x1⟩,⟨rfl,x2⟩,⟨rfl,x3⟩,⟨rfl,x4⟩,⟨rfl,x5⟩⟩:=Fo h5;obtain⟨lo,rfl,w6⟩:=eu Tryz.underlying3 h6;obtain⟨tr,rfl,w7⟩:=eu Tryz.underlying3 h7;obtain⟨ba,rfl,w8⟩:=eu Tryz.underlying3 h8;obtain⟨-,fuel2,atq,hp2,hb⟩:=oZ Tryz.underlying24 h4;obtain⟨z0,-,g0⟩:=hb 0 _ rfl;obtain⟨z1,-,g1⟩:=hb 1 _ rfl;obtain⟨z2,r2,g2⟩:=hb 2 _ rfl;simp only[zm,Rp,VI] at g0 g1 g2;obtain⟨kd,rfl,w4⟩:=eu Tryz.underlying5 g0;obtain⟨dn,rfl,w5⟩:=eu Tryz.underlying3 g1;obtain⟨vs,s,s',xs,e,hvs,Kr,hin,hlen,hwf,hcp⟩:=open_ints (base':=base') Tryz.underlying22 Tryz.underlying57 VJ (by rw[VK];omega) g2
  (fun v hv=>by
   obtain⟨u,hu,hc⟩:=hcell 6 v hv;simp at hu;subst hu;exact hc)
  (fun n hn=>by
   refine hz n ?_;have e1:=o7 (P:=Tryz.prog) (j:=2) Tryz.underlying24 rfl r2 n hn;rw[←hp2] at e1;have e2:=o7 (P:=Tryz.prog) (j:=4) Tryz.underlying27 rfl q4 n e1;rw[←hp] at e2;exact e2)
 cases e;exact⟨th,sl,en,bu,kd,dn,t0,t1,t2,t3,t4,t5,lo,tr,ba,_,vs,s,xs,rfl,hvs,Kr,hin,hlen,hwf,⟨w0,w1,w2,w3,w4,w5⟩,⟨x0,x1,x2,x3,x4,x5⟩,⟨w6,w7,w8⟩,hcp⟩
end
end Go.Proofs.YtofmbmclopgldaaGreat
