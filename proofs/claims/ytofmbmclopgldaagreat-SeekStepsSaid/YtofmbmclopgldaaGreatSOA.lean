/-
A part.
-/
import Derived.Test.YtofmbmclopgldaaGreatSS3
import Derived.Test.YtofmbmclopgldaaGreatSO6
set_option linter.all false
set_option maxRecDepth 100000
set_option maxHeartbeats 32000000
namespace Go.Proofs.YtofmbmclopgldaaGreat
open Go.Am Go.Proofs.Tryz
def Fi:Int→List Int→Prop
 | _,[]=>True
 |b,x::r=>b<x∧Fi x r
theorem A7{y:Int}:∀ {ws:List Int} {b:Int},Fi b ws→(ws.length=0→b<y)→(0<ws.length→ws.getD (ws.length-1) 0<y)→Fi b (ws++[y])
 | [],b,_,h0,_=>⟨h0 rfl,trivial⟩
 | [x],b,h,_,h1=>⟨h.1,by simpa using h1 (by simp),trivial⟩
 |x::z::ws,b,h,_,h1=>⟨h.1,A7 (ws:=z::ws) h.2 (fun q=>by simp at q) fun _=>by simpa using h1 (by simp)⟩
theorem Rb{ws:List Int}{x:Int}(h:Fi 0 ws)(hl:ws.length≤4):Fi 0 (zv ws x)∧(zv ws x).length≤4:=by
 unfold zv;split
 ·rename_i q;refine⟨A7 h (fun _=>q.2.1) fun p=>q.2.2.resolve_left qJ,by simp;omega⟩
 ·exact⟨h,hl⟩
theorem Rc:∀ {xs ws:List Int},Fi 0 ws→ws.length≤4→Fi 0 (xs.foldl zv ws)∧(xs.foldl zv ws).length≤4
 | [],ws,h,hl=>⟨h,hl⟩
 |x::xs,ws,h,hl=>Rc (xs:=xs) (Rb h hl).1 (Rb h hl).2
theorem JA:∀ {xs ws:List Int} {y:Int},y∈xs.foldl zv ws→y∈ws∨y∈xs
 | [],ws,y,h => .inl h
 |x::xs,ws,y,h=>by
  rcases JA (xs:=xs) h with q |q
  ·unfold zv at q;split at q
   ·rcases List.mem_append.1 q with q |q
    ·exact .inl q
    ·exact .inr (by simp at q;simp[q])
   ·exact .inl q
  ·exact .inr (by simp[q])
theorem Rg:∀ {xs:List Int} {b:Int},Fi b xs→yt b xs=true
 | [],b,_=>rfl
 |x::r,b,h=>by
  unfold yt;rw[if_neg (by have:=h.1;omega)];exact Rg h.2
theorem zf:cq 1 0 []=true∧aC 1 0 []=1:=⟨rfl,rfl⟩
theorem zg{dn:Int}:cq 2 (1+bh dn 5) []=true∧aC 2 (1+bh dn 5) []≤5:=by
 obtain⟨a,b⟩:=@cZ dn 5;have:=b qi;refine⟨?_,?_⟩
 ·unfold cq;rw[if_neg qi,if_pos rfl];simp;omega
 ·unfold aC;rw[if_pos rfl];omega
theorem zh{xs ws:List Int}(h:ws=xs.foldl zv [])(hn:ws≠[]):cq 3 0 ws=true∧aC 3 0 ws≤5:=by
 obtain⟨a,b⟩:=Rc (xs:=xs) (ws:=[]) trivial (by simp);rw[←h] at a b;have hp:1≤ws.length:=by cases ws with
  |nil=>exact absurd rfl hn
  |cons x r=>simp
 refine⟨?_,?_⟩
 ·unfold cq;rw[if_neg qi,if_neg qi,if_pos rfl,Rg a];simp;omega
 ·unfold aC;rw[if_neg qi,if_pos rfl];omega
abbrev xS:List Rl:=[(130,0),(131,0),(132,0),(133,0),(134,0),(135,0)]
abbrev rR(th sl en bu kd dn:Int)(s:Value)(x0 x1 x2 x3 x4 x5 lo tr ba:Int)(i:Nat):List Value:=[I6 th,I6 sl,U8 en,I6 bu,U8 kd,I6 dn,s,I6 (if 0<i then x0 else 0),I6 (if 1<i then x1 else 0),I6 (if 2<i then x2 else 0),I6 (if 3<i then x3 else 0),I6 (if 4<i then x4 else 0),I6 (if 5<i then x5 else 0),I6 lo,I6 tr,I6 ba]
structure Vz(th sl en bu kd dn t0 t1 t2 t3 t4 t5 lo tr ba:Int)(xs:List Int):Prop where
 hth:1≤th∧th≤6
 hsl:1≤sl∧sl≤5
 LN:1≤en∧en≤3
 RZ:if en=3 then 1≤bu∧bu≤4 else bu=0
 hdom:cq kd dn xs=true
 as8:aC kd dn xs≤5
 hts:((0≤t0∧t0≤6)∧0≤t1∧t1≤6)∧((0≤t2∧t2≤6)∧0≤t3∧t3≤6)∧(0≤t4∧t4≤6)∧0≤t5∧t5≤6
 hlo:1≤lo∧lo≤4
 htr:1≤tr∧tr≤6
 hba:0≤ba∧ba≤3
 hpos:∀ x∈xs,0≤x∧x<18446744073709551616
theorem Vz.cfg{th sl en bu kd dn t0 t1 t2 t3 t4 t5 lo tr ba:Int}{xs:List Int}(H:Vz th sl en bu kd dn t0 t1 t2 t3 t4 t5 lo tr ba xs):gq th sl en bu kd dn t0 t1 t2 t3 t4 t5 lo tr ba xs=true:=by
 obtain⟨a1,a2,a3,a4,a5,-,⟨⟨b0,b1⟩,⟨b2,b3⟩,b4,b5⟩,a7,a8,a9,-⟩:=H;unfold gq;rw[a5];have hb:(if en=3 then decide (1≤bu)&&decide (bu≤16) else decide (bu=0))=true:=by
  split at a4<;>rename_i c
  ·rw[if_pos c];simp;omega
  ·rw[if_neg c];simp;omega
 rw[hb];simp only[Bool.and_eq_true,Bool.not_eq_true',Bool.or_eq_false_iff,decide_eq_true_eq,decide_eq_false_iff_not];refine⟨⟨⟨⟨⟨⟨⟨⟨⟨⟨⟨⟨⟨⟨?_,?_⟩,?_⟩,?_⟩,?_⟩,?_⟩,?_⟩,?_⟩,?_⟩,?_⟩,?_⟩,?_⟩,?_⟩,?_⟩,?_⟩<;>first |trivial|omega
section
variable {d:Rl→Nat} {C:Rl→Option aj} {h h1:PT aj} {n n1:Nat}
theorem VA(S:St h n d C)(F:Fz h1 n1 d C)(hn:n1≤n){th sl en bu kd dn t0 t1 t2 t3 t4 t5 lo tr ba:Int}{s:Value}{xs:List Int}(hs:aN .u64 h1 s xs)(hps:∀ x∈xs,0≤x∧x<18446744073709551616)(hl:xs.length<1000000000000000)(vC:0≤kd∧kd<256)(LN:0≤en∧en<256):
  cE prog OB 27 [.agg ⟨[I6 th,I6 sl,U8 en,I6 bu,U8 kd,I6 dn,s,I6 t0,I6 t1,I6 t2,I6 t3,I6 t4,I6 t5,I6 lo,I6 tr,I6 ba]⟩] h n fun v h' n'=>∃ (d':Rl→Nat) (C':Rl→Option aj) (th sl en bu kd dn t0 t1 t2 t3 t4 t5 lo tr ba:Int) (s:Value) (xs:List Int),v = .agg ⟨[I6 th,I6 sl,U8 en,I6 bu,U8 kd,I6 dn,s,I6 t0,I6 t1,I6 t2,I6 t3,I6 t4,I6 t5,I6 lo,I6 tr,I6 ba]⟩∧Vz th sl en bu kd dn t0 t1 t2 t3 t4 t5 lo tr ba xs∧aN .u64 h' s xs∧Nz n d C xS xS d' C' h' n':=by
 have q1:=@cZ th 6;have q2:=@cZ sl 5;have q3:=@cZ lo 4;have q4:=@cZ tr 6;have q5:=@cZ ba 4;have r1:=Int.tmod_nonneg (3:Int) LN.1;have r2:=Int.tmod_lt_of_pos en (show (0:Int)<3 by decide);have heu:IntKind.u8.wrap (1+en.tmod 3)=1+en.tmod 3:=wrap_u8 qJ qJ;have q6:=@cZ bu 4;refine ay (N:=53) func27 rfl rfl fun z hP hO hro hN hQ=>?_
 repeat' first|simp(disch:=try exact yj) only[go_sem, *] | (apply xs<;>intro _)<;>try omega
 obtain⟨d1,C1,N1,Rh,VB,VC,as9⟩:∃ d1 C1,Nz n d C xS xS d1 C1 ((h.set n (some (.cells (PT.ofList .leaf 0 [I6 th,I6 sl,U8 en,I6 bu,U8 kd,I6 dn,s,I6 t0,I6 t1,I6 t2,I6 t3,I6 t4,I6 t5,I6 lo,I6 tr,I6 ba]) false))).set (n+1) (some (.cells (PT.ofList .leaf 0 [.int .i64 0,.int .i64 0,.int .u8 0,.int .i64 0,.int .u8 0,.int .i64 0,.slice none 0 0,.int .i64 0,.int .i64 0,.int .i64 0,.int .i64 0,.int .i64 0,.int .i64 0,.int .i64 0,.int .i64 0,.int .i64 0]) false))) (n+1+1)∧d1 (133,0)=n∧d1 (134,0)=n+1∧C1 (133,0)=row [I6 th,I6 sl,U8 en,I6 bu,U8 kd,I6 dn,s,I6 t0,I6 t1,I6 t2,I6 t3,I6 t4,I6 t5,I6 lo,I6 tr,I6 ba]∧C1 (134,0)=row [.int .i64 0,.int .i64 0,.int .u8 0,.int .i64 0,.int .u8 0,.int .i64 0,.slice none 0 0,.int .i64 0,.int .i64 0,.int .i64 0,.int .i64 0,.int .i64 0,.int .i64 0,.int .i64 0,.int .i64 0,.int .i64 0]:=
  ⟨_,_,(Nz.new (t:=133) (b:=0) qi (Nat.le_refl _) (Nat.le_succ _) (S.new (133,0) _ (Nat.le_refl _) (Nat.lt_succ_self _))).trans (Nz.new (t:=134) (b:=0) qi (Nat.le_refl _) (Nat.le_succ _) ((S.new (133,0) _ (Nat.le_refl _) (Nat.lt_succ_self _)).new (134,0) _ (Nat.le_refl _) (Nat.lt_succ_self _))),(au qi).trans aq,aq,(au qi).trans aq,aq⟩
 have CL:=N1.st.at VC;rw[Rh] at CL;have F1:=N1.fz _ _ hn F;have hn1:=N1.le;generalize (h.set n _).set (n+1) _=h2 at*
 repeat' first|simp(disch:=try exact yj) only[go_sem, *,jT] | (apply xs<;>intro _)<;>try omega | ((with_reducible refine b8 1 ?_);refine dw 53 1 aoA (by first | (simp only[go_sem, *];done)|rfl) (by kernel_rfl) (by kernel_rfl) ?_)
 refine lN (xD++Ma n1) N1.st (fun hh SS=>asH SS (F1.vl xD) qJ hs hl vC) (by simp) (by simp) hP hO hN.symm (by rw[hO];rfl) ?_;rintro v h3 n3 d3 C3' C3 N3 hC hv rd wr hm;obtain⟨zw,zx,uC,s2,rfl,hD1,hD2,hI,aht,hI2⟩:∃ (zw zx:Int) (uC:List Int) (s2:Value),v = .agg ⟨[U8 zw,I6 zx,s2]⟩∧cq zw zx uC=true∧aC zw zx uC≤5∧aN .u64 h3 s2 uC∧(∀ x∈uC,0≤x∧x<18446744073709551616)∧Hid (∀ h' n' d' C',St h' n' d' C'→d' (132,0)=d3 (132,0)→C' (132,0)=C3 (132,0)→aN .u64 h' s2 uC):=by
  rcases hv with rfl|rfl | ⟨ws,w1,w2,rfl,w4⟩
  ·exact⟨1,0,[],_,rfl,zf.1,by rw[zf.2];decide,.inl ⟨rfl,rfl⟩,by simp,⟨fun _ _ _ _ _ _ _ => .inl ⟨rfl,rfl⟩⟩⟩
  ·exact⟨2,_,[],_,rfl,zg.1,zg.2,.inl ⟨rfl,rfl⟩,by simp,⟨fun _ _ _ _ _ _ _ => .inl ⟨rfl,rfl⟩⟩⟩
  ·have hp:0<ws.length:=by cases ws with
    |nil=>exact absurd rfl w1
    |cons x r=>simp
   have g:=N3.st.at ((hC (132,0) (by simp)).trans w4);rw[fS hp];have ata:∀ x∈ws,0≤x∧x<18446744073709551616:=fun x hx=>by
    rw[w2] at hx
    rcases JA hx with q |q
    ·simp at q
    ·exact hps x q
   refine⟨3,0,ws,_,rfl,(zh w2 w1).1,(zh w2 w1).2,.inr ⟨_,0,none,_,_,_,rfl,g,?_,?_⟩,ata,⟨fun h' n' d' C' S' e1 e2 => .inr ⟨_,0,none,_,_,_,rfl,by rw[←e1];exact S'.at (e2.trans ((hC (132,0) (by simp)).trans w4)),?_,?_⟩⟩⟩
   ·simp
   ·rw[List.drop_zero];exact jH
   ·simp
   ·rw[List.drop_zero];exact jH
 obtain⟨a2,c2,rfl,-⟩:=hI.len;have hno:((133,0):Rl)∉xD++Ma n1:=fun q=>by
  rcases List.mem_append.1 q with q |q
  ·simp at q
  ·have:=wG q;simp at this
 have ahu:=hm (d1 (133,0)) (N1.st.lt VC) (N1.st.off VC hno);rw[Rh] at ahu;obtain⟨⟨m1,m2⟩,m3,m4⟩:=ahu;have N:=N1.trans (N3.sub (X':=xS) (Y':=xS) (by simp) (by simp));have Rj:=(N3.cc (133,0) qi).trans VC;have JB:=(N3.cc (134,0) qi).trans as9;have CL:=N3.st.at Rj;rw[N3.dd (133,0) qi,Rh] at CL;clear hm hv hC;have hn3:=N3.le;by_cases ce:en.tmod 3=2
 ·clear heu
  repeat' first|simp(disch:=try exact yj) only[go_sem, *,jT] | (apply xs<;>intro _)<;>try omega
  repeat rw[PT.set_set]
  refine a_ (fun t m h' n'=>∃ (i:Nat) (d':Rl→Nat) (C':Rl→Option aj),i≤6∧t=6-i∧m.n=53∧m.fF=[]∧m.get 1=pt n∧m.get 2=pt (n+1)∧m.get 3=pt n3∧m.get 4=I6 i∧Nz n3 d3 C3 [(135,0)] [(135,0)] d' C' h' n'∧d' (135,0)=n3∧C' (135,0)=row (rR (1+bh th 6) (1+bh sl 5) (3) (1+bh bu 4) zw zx (.slice a2 uC.length c2) (bh t0 7) (bh t1 7) (bh t2 7) (bh t3 7) (bh t4 7) (bh t5 7) (1+bh lo 4) (1+bh tr 6) (bh ba 4) i)) 6 ?_ ?_
  ·refine⟨0,upd d3 (135,0) n3,upd C3 (135,0) (row (rR (1+bh th 6) (1+bh sl 5) (3) (1+bh bu 4) zw zx (.slice a2 uC.length c2) (bh t0 7) (bh t1 7) (bh t2 7) (bh t3 7) (bh t4 7) (bh t5 7) (1+bh lo 4) (1+bh tr 6) (bh ba 4) 0)),by omega,by omega,?_⟩;simp(disch:=try exact yj) only[go_sem, *];exact⟨Nz.new (t:=135) (b:=0) qi (Nat.le_refl _) (Nat.le_succ _) (N3.st.new (135,0) _ (Nat.le_refl _) (Nat.lt_succ_self _)),aq,aq⟩
  ·clear CL;rintro t m h' n' ih ⟨i,d4,C4,hi,rfl,p1,p2,p3,p4,p5,p6,N4,rO,jF⟩;have CL:=N4.st.at ((N4.cc (133,0) qi).trans Rj);rw[(N4.dd (133,0) qi).trans ((N3.dd (133,0) qi).trans Rh)] at CL;have pS:=N4.st.at jF;rw[rO] at pS;have vN:∀ x:Int,0≤bh x 7∧bh x 7<7:=fun x=>⟨(@cZ x 7).1,(@cZ x 7).2 qi⟩;have h7:i=0∨i=1∨i=2∨i=3∨i=4∨i=5∨i=6:=by omega
   rcases h7 with rfl|rfl|rfl|rfl|rfl|rfl|rfl
   ·clear vN;replace p6:m.get 4=I6 0:=p6;simp only[rR,Nat.reduceLT,if_true,if_false,Nat.lt_irrefl,reduceIte] at pS
    repeat' first|simp(disch:=try exact yj) only[go_sem, *,jT] | (apply xs<;>intro _)<;>try omega
    refine ih (6-1) _ _ _ qJ ⟨1,d4,upd C4 (135,0) (row (rR (1+bh th 6) (1+bh sl 5) (3) (1+bh bu 4) zw zx (.slice a2 uC.length c2) (bh t0 7) (bh t1 7) (bh t2 7) (bh t3 7) (bh t4 7) (bh t5 7) (1+bh lo 4) (1+bh tr 6) (bh ba 4) 1)),by omega,by omega,?_⟩;clear ih;simp(disch:=try exact yj) only[go_sem, *];exact⟨rfl,N4.trans (Nz.set (t:=135) (b:=0) qi jF (N4.st.set (135,0) _ jF rO)),aq⟩
   ·clear vN;replace p6:m.get 4=I6 1:=p6;simp only[rR,Nat.reduceLT,if_true,if_false,Nat.lt_irrefl,reduceIte] at pS
    repeat' first|simp(disch:=try exact yj) only[go_sem, *,jT] | (apply xs<;>intro _)<;>try omega
    refine ih (6-2) _ _ _ qJ ⟨2,d4,upd C4 (135,0) (row (rR (1+bh th 6) (1+bh sl 5) (3) (1+bh bu 4) zw zx (.slice a2 uC.length c2) (bh t0 7) (bh t1 7) (bh t2 7) (bh t3 7) (bh t4 7) (bh t5 7) (1+bh lo 4) (1+bh tr 6) (bh ba 4) 2)),by omega,by omega,?_⟩;clear ih;simp(disch:=try exact yj) only[go_sem, *];exact⟨rfl,N4.trans (Nz.set (t:=135) (b:=0) qi jF (N4.st.set (135,0) _ jF rO)),aq⟩
   ·clear vN;replace p6:m.get 4=I6 2:=p6;simp only[rR,Nat.reduceLT,if_true,if_false,Nat.lt_irrefl,reduceIte] at pS
    repeat' first|simp(disch:=try exact yj) only[go_sem, *,jT] | (apply xs<;>intro _)<;>try omega
    refine ih (6-3) _ _ _ qJ ⟨3,d4,upd C4 (135,0) (row (rR (1+bh th 6) (1+bh sl 5) (3) (1+bh bu 4) zw zx (.slice a2 uC.length c2) (bh t0 7) (bh t1 7) (bh t2 7) (bh t3 7) (bh t4 7) (bh t5 7) (1+bh lo 4) (1+bh tr 6) (bh ba 4) 3)),by omega,by omega,?_⟩;clear ih;simp(disch:=try exact yj) only[go_sem, *];exact⟨rfl,N4.trans (Nz.set (t:=135) (b:=0) qi jF (N4.st.set (135,0) _ jF rO)),aq⟩
   ·clear vN;replace p6:m.get 4=I6 3:=p6;simp only[rR,Nat.reduceLT,if_true,if_false,Nat.lt_irrefl,reduceIte] at pS
    repeat' first|simp(disch:=try exact yj) only[go_sem, *,jT] | (apply xs<;>intro _)<;>try omega
    refine ih (6-4) _ _ _ qJ ⟨4,d4,upd C4 (135,0) (row (rR (1+bh th 6) (1+bh sl 5) (3) (1+bh bu 4) zw zx (.slice a2 uC.length c2) (bh t0 7) (bh t1 7) (bh t2 7) (bh t3 7) (bh t4 7) (bh t5 7) (1+bh lo 4) (1+bh tr 6) (bh ba 4) 4)),by omega,by omega,?_⟩;clear ih;simp(disch:=try exact yj) only[go_sem, *];exact⟨rfl,N4.trans (Nz.set (t:=135) (b:=0) qi jF (N4.st.set (135,0) _ jF rO)),aq⟩
   ·clear vN;replace p6:m.get 4=I6 4:=p6;simp only[rR,Nat.reduceLT,if_true,if_false,Nat.lt_irrefl,reduceIte] at pS
    repeat' first|simp(disch:=try exact yj) only[go_sem, *,jT] | (apply xs<;>intro _)<;>try omega
    refine ih (6-5) _ _ _ qJ ⟨5,d4,upd C4 (135,0) (row (rR (1+bh th 6) (1+bh sl 5) (3) (1+bh bu 4) zw zx (.slice a2 uC.length c2) (bh t0 7) (bh t1 7) (bh t2 7) (bh t3 7) (bh t4 7) (bh t5 7) (1+bh lo 4) (1+bh tr 6) (bh ba 4) 5)),by omega,by omega,?_⟩;clear ih;simp(disch:=try exact yj) only[go_sem, *];exact⟨rfl,N4.trans (Nz.set (t:=135) (b:=0) qi jF (N4.st.set (135,0) _ jF rO)),aq⟩
   ·clear vN;replace p6:m.get 4=I6 5:=p6;simp only[rR,Nat.reduceLT,if_true,if_false,Nat.lt_irrefl,reduceIte] at pS
    repeat' first|simp(disch:=try exact yj) only[go_sem, *,jT] | (apply xs<;>intro _)<;>try omega
    refine ih (6-6) _ _ _ qJ ⟨6,d4,upd C4 (135,0) (row (rR (1+bh th 6) (1+bh sl 5) (3) (1+bh bu 4) zw zx (.slice a2 uC.length c2) (bh t0 7) (bh t1 7) (bh t2 7) (bh t3 7) (bh t4 7) (bh t5 7) (1+bh lo 4) (1+bh tr 6) (bh ba 4) 6)),by omega,by omega,?_⟩;clear ih;simp(disch:=try exact yj) only[go_sem, *];exact⟨rfl,N4.trans (Nz.set (t:=135) (b:=0) qi jF (N4.st.set (135,0) _ jF rO)),aq⟩
   ·replace p6:m.get 4=I6 6:=p6;simp only[rR,Nat.reduceLT,if_true,if_false,Nat.lt_irrefl,reduceIte] at pS;have aaF:=N4.st.at ((N4.cc (134,0) qi).trans JB);rw[(N4.dd (134,0) qi).trans ((N3.dd (134,0) qi).trans VB)] at aaF
    repeat' first|simp(disch:=try exact yj) only[go_sem, *,jT] | (apply xs<;>intro _)<;>try omega
    have Fj:=(N4.cc (134,0) qi).trans JB;have Rk:=(N4.dd (134,0) qi).trans ((N3.dd (134,0) qi).trans VB);have S5:=N4.st.set (134,0) (.cells (PT.ofList .leaf 0 [I6 (1+bh th 6),I6 (1+bh sl 5),U8 (3),I6 (1+bh bu 4),U8 zw,I6 zx,.slice a2 uC.length c2,I6 (bh t0 7),I6 (bh t1 7),I6 (bh t2 7),I6 (bh t3 7),I6 (bh t4 7),I6 (bh t5 7),I6 (1+bh lo 4),I6 (1+bh tr 6),I6 (bh ba 4)]) false) Fj Rk;have z1:=q1.2 qi;have z2:=q2.2 qi;have z3:=q3.2 qi;have z4:=q4.2 qi;have z5:=q5.2 qi;have z6:=q6.2 qi;have w0:=vN t0;have w1:=vN t1;have w2:=vN t2;have w3:=vN t3;have w4:=vN t4;have w5:=vN t5;exact⟨d4,_,_,_,_,_,_,_,_,_,_,_,_,_,_,_,_,_,uC,rfl,⟨by omega,by omega,by omega,by rw[if_pos rfl];omega,hD1,hD2,⟨⟨by omega,by omega⟩,⟨by omega,by omega⟩,by omega,by omega⟩,by omega,by omega,by omega,aht⟩,hI2.h _ _ _ _ S5 (N4.dd (132,0) qi) ((au qi).trans (N4.cc (132,0) qi)),N.trans ((N4.sub (by simp) (by simp)).trans (Nz.set (t:=134) (b:=0) qi Fj S5))⟩
 ·have ce2: ¬ 1+en.tmod 3=3:=by omega
  repeat' first|simp(disch:=try exact yj) only[go_sem, *,jT] | (apply xs<;>intro _)<;>try omega
  repeat rw[PT.set_set]
  refine a_ (fun t m h' n'=>∃ (i:Nat) (d':Rl→Nat) (C':Rl→Option aj),i≤6∧t=6-i∧m.n=53∧m.fF=[]∧m.get 1=pt n∧m.get 2=pt (n+1)∧m.get 3=pt n3∧m.get 4=I6 i∧Nz n3 d3 C3 [(135,0)] [(135,0)] d' C' h' n'∧d' (135,0)=n3∧C' (135,0)=row (rR (1+bh th 6) (1+bh sl 5) (1+en.tmod 3) (0) zw zx (.slice a2 uC.length c2) (bh t0 7) (bh t1 7) (bh t2 7) (bh t3 7) (bh t4 7) (bh t5 7) (1+bh lo 4) (1+bh tr 6) (bh ba 4) i)) 6 ?_ ?_
  ·refine⟨0,upd d3 (135,0) n3,upd C3 (135,0) (row (rR (1+bh th 6) (1+bh sl 5) (1+en.tmod 3) (0) zw zx (.slice a2 uC.length c2) (bh t0 7) (bh t1 7) (bh t2 7) (bh t3 7) (bh t4 7) (bh t5 7) (1+bh lo 4) (1+bh tr 6) (bh ba 4) 0)),by omega,by omega,?_⟩;simp(disch:=try exact yj) only[go_sem, *];exact⟨Nz.new (t:=135) (b:=0) qi (Nat.le_refl _) (Nat.le_succ _) (N3.st.new (135,0) _ (Nat.le_refl _) (Nat.lt_succ_self _)),aq,aq⟩
  ·clear CL;rintro t m h' n' ih ⟨i,d4,C4,hi,rfl,p1,p2,p3,p4,p5,p6,N4,rO,jF⟩;have CL:=N4.st.at ((N4.cc (133,0) qi).trans Rj);rw[(N4.dd (133,0) qi).trans ((N3.dd (133,0) qi).trans Rh)] at CL;have pS:=N4.st.at jF;rw[rO] at pS;have vN:∀ x:Int,0≤bh x 7∧bh x 7<7:=fun x=>⟨(@cZ x 7).1,(@cZ x 7).2 qi⟩;have h7:i=0∨i=1∨i=2∨i=3∨i=4∨i=5∨i=6:=by omega
   rcases h7 with rfl|rfl|rfl|rfl|rfl|rfl|rfl
   ·clear vN;replace p6:m.get 4=I6 0:=p6;simp only[rR,Nat.reduceLT,if_true,if_false,Nat.lt_irrefl,reduceIte] at pS
    repeat' first|simp(disch:=try exact yj) only[go_sem, *,jT] | (apply xs<;>intro _)<;>try omega
    refine ih (6-1) _ _ _ qJ ⟨1,d4,upd C4 (135,0) (row (rR (1+bh th 6) (1+bh sl 5) (1+en.tmod 3) (0) zw zx (.slice a2 uC.length c2) (bh t0 7) (bh t1 7) (bh t2 7) (bh t3 7) (bh t4 7) (bh t5 7) (1+bh lo 4) (1+bh tr 6) (bh ba 4) 1)),by omega,by omega,?_⟩;clear ih;simp(disch:=try exact yj) only[go_sem, *];exact⟨rfl,N4.trans (Nz.set (t:=135) (b:=0) qi jF (N4.st.set (135,0) _ jF rO)),aq⟩
   ·clear vN;replace p6:m.get 4=I6 1:=p6;simp only[rR,Nat.reduceLT,if_true,if_false,Nat.lt_irrefl,reduceIte] at pS
    repeat' first|simp(disch:=try exact yj) only[go_sem, *,jT] | (apply xs<;>intro _)<;>try omega
    refine ih (6-2) _ _ _ qJ ⟨2,d4,upd C4 (135,0) (row (rR (1+bh th 6) (1+bh sl 5) (1+en.tmod 3) (0) zw zx (.slice a2 uC.length c2) (bh t0 7) (bh t1 7) (bh t2 7) (bh t3 7) (bh t4 7) (bh t5 7) (1+bh lo 4) (1+bh tr 6) (bh ba 4) 2)),by omega,by omega,?_⟩;clear ih;simp(disch:=try exact yj) only[go_sem, *];exact⟨rfl,N4.trans (Nz.set (t:=135) (b:=0) qi jF (N4.st.set (135,0) _ jF rO)),aq⟩
   ·clear vN;replace p6:m.get 4=I6 2:=p6;simp only[rR,Nat.reduceLT,if_true,if_false,Nat.lt_irrefl,reduceIte] at pS
    repeat' first|simp(disch:=try exact yj) only[go_sem, *,jT] | (apply xs<;>intro _)<;>try omega
    refine ih (6-3) _ _ _ qJ ⟨3,d4,upd C4 (135,0) (row (rR (1+bh th 6) (1+bh sl 5) (1+en.tmod 3) (0) zw zx (.slice a2 uC.length c2) (bh t0 7) (bh t1 7) (bh t2 7) (bh t3 7) (bh t4 7) (bh t5 7) (1+bh lo 4) (1+bh tr 6) (bh ba 4) 3)),by omega,by omega,?_⟩;clear ih;simp(disch:=try exact yj) only[go_sem, *];exact⟨rfl,N4.trans (Nz.set (t:=135) (b:=0) qi jF (N4.st.set (135,0) _ jF rO)),aq⟩
   ·clear vN;replace p6:m.get 4=I6 3:=p6;simp only[rR,Nat.reduceLT,if_true,if_false,Nat.lt_irrefl,reduceIte] at pS
    repeat' first|simp(disch:=try exact yj) only[go_sem, *,jT] | (apply xs<;>intro _)<;>try omega
    refine ih (6-4) _ _ _ qJ ⟨4,d4,upd C4 (135,0) (row (rR (1+bh th 6) (1+bh sl 5) (1+en.tmod 3) (0) zw zx (.slice a2 uC.length c2) (bh t0 7) (bh t1 7) (bh t2 7) (bh t3 7) (bh t4 7) (bh t5 7) (1+bh lo 4) (1+bh tr 6) (bh ba 4) 4)),by omega,by omega,?_⟩;clear ih;simp(disch:=try exact yj) only[go_sem, *];exact⟨rfl,N4.trans (Nz.set (t:=135) (b:=0) qi jF (N4.st.set (135,0) _ jF rO)),aq⟩
   ·clear vN;replace p6:m.get 4=I6 4:=p6;simp only[rR,Nat.reduceLT,if_true,if_false,Nat.lt_irrefl,reduceIte] at pS
    repeat' first|simp(disch:=try exact yj) only[go_sem, *,jT] | (apply xs<;>intro _)<;>try omega
    refine ih (6-5) _ _ _ qJ ⟨5,d4,upd C4 (135,0) (row (rR (1+bh th 6) (1+bh sl 5) (1+en.tmod 3) (0) zw zx (.slice a2 uC.length c2) (bh t0 7) (bh t1 7) (bh t2 7) (bh t3 7) (bh t4 7) (bh t5 7) (1+bh lo 4) (1+bh tr 6) (bh ba 4) 5)),by omega,by omega,?_⟩;clear ih;simp(disch:=try exact yj) only[go_sem, *];exact⟨rfl,N4.trans (Nz.set (t:=135) (b:=0) qi jF (N4.st.set (135,0) _ jF rO)),aq⟩
   ·clear vN;replace p6:m.get 4=I6 5:=p6;simp only[rR,Nat.reduceLT,if_true,if_false,Nat.lt_irrefl,reduceIte] at pS
    repeat' first|simp(disch:=try exact yj) only[go_sem, *,jT] | (apply xs<;>intro _)<;>try omega
    refine ih (6-6) _ _ _ qJ ⟨6,d4,upd C4 (135,0) (row (rR (1+bh th 6) (1+bh sl 5) (1+en.tmod 3) (0) zw zx (.slice a2 uC.length c2) (bh t0 7) (bh t1 7) (bh t2 7) (bh t3 7) (bh t4 7) (bh t5 7) (1+bh lo 4) (1+bh tr 6) (bh ba 4) 6)),by omega,by omega,?_⟩;clear ih;simp(disch:=try exact yj) only[go_sem, *];exact⟨rfl,N4.trans (Nz.set (t:=135) (b:=0) qi jF (N4.st.set (135,0) _ jF rO)),aq⟩
   ·replace p6:m.get 4=I6 6:=p6;simp only[rR,Nat.reduceLT,if_true,if_false,Nat.lt_irrefl,reduceIte] at pS;have aaF:=N4.st.at ((N4.cc (134,0) qi).trans JB);rw[(N4.dd (134,0) qi).trans ((N3.dd (134,0) qi).trans VB)] at aaF
    repeat' first|simp(disch:=try exact yj) only[go_sem, *,jT] | (apply xs<;>intro _)<;>try omega
    have Fj:=(N4.cc (134,0) qi).trans JB;have Rk:=(N4.dd (134,0) qi).trans ((N3.dd (134,0) qi).trans VB);have S5:=N4.st.set (134,0) (.cells (PT.ofList .leaf 0 [I6 (1+bh th 6),I6 (1+bh sl 5),U8 (1+en.tmod 3),I6 (0),U8 zw,I6 zx,.slice a2 uC.length c2,I6 (bh t0 7),I6 (bh t1 7),I6 (bh t2 7),I6 (bh t3 7),I6 (bh t4 7),I6 (bh t5 7),I6 (1+bh lo 4),I6 (1+bh tr 6),I6 (bh ba 4)]) false) Fj Rk;have z1:=q1.2 qi;have z2:=q2.2 qi;have z3:=q3.2 qi;have z4:=q4.2 qi;have z5:=q5.2 qi;have z6:=q6.2 qi;have w0:=vN t0;have w1:=vN t1;have w2:=vN t2;have w3:=vN t3;have w4:=vN t4;have w5:=vN t5;exact⟨d4,_,_,_,_,_,_,_,_,_,_,_,_,_,_,_,_,_,uC,rfl,⟨by omega,by omega,by omega,by rw[if_neg ce2],hD1,hD2,⟨⟨by omega,by omega⟩,⟨by omega,by omega⟩,by omega,by omega⟩,by omega,by omega,by omega,aht⟩,hI2.h _ _ _ _ S5 (N4.dd (132,0) qi) ((au qi).trans (N4.cc (132,0) qi)),N.trans ((N4.sub (by simp) (by simp)).trans (Nz.set (t:=134) (b:=0) qi Fj S5))⟩
end
end Go.Proofs.YtofmbmclopgldaaGreat
namespace Go.Proofs.YtofmbmclopgldaaGreat
open Go.Am Go.Proofs.Tryz
section
variable {d:Rl→Nat} {C:Rl→Option aj} {h:PT aj} {n:Nat}
theorem Rm(hW:bQ h n){th sl en bu kd dn t0 t1 t2 t3 t4 t5 lo tr ba:Int}{s:Value}{xs:List Int}(hs:aN .u64 h s xs)(hl:xs.length<1000000):
  cE prog OB 71 [.agg ⟨[I6 th,I6 sl,U8 en,I6 bu,U8 kd,I6 dn,s,I6 t0,I6 t1,I6 t2,I6 t3,I6 t4,I6 t5,I6 lo,I6 tr,I6 ba]⟩] h n fun v h' n'=>∃ s',v = .agg ⟨[I6 th,I6 sl,U8 en,I6 bu,U8 kd,I6 dn,s',I6 t0,I6 t1,I6 t2,I6 t3,I6 t4,I6 t5,I6 lo,I6 tr,I6 ba]⟩∧pJ .u64 h' n s' xs∧Kept h h'∧bQ h' n'∧n≤n':=by
 rcases hs with ⟨rfl,rfl⟩ | ⟨b,off,sp,cap,L,ro,rfl,hb,ho,hL⟩
 ·refine ay (N:=8) func71 rfl rfl fun z hP hO hro hN hQ=>?_
  repeat' first|simp(disch:=try exact yj) only[go_sem, *] | (apply xs<;>intro _)<;>try omega|refine fun (_ _:List Nat)=>?_ | (first|refine bD func141 rfl ?_ ?_ ?_ ?_ |refine bD func208 rfl ?_ ?_ ?_ ?_ |fail)<;>intros
  refine⟨_,rfl,.inl ⟨rfl,rfl⟩,?_,?_,by omega⟩
  ·repeat refine Kept.set' hW qJ ?_
   exact Kept.refl _
  ·(repeat refine bQ.set' qJ ?_);first|assumption|exact bQ.mono (by assumption) qJ
 ·have FH:=hW.lt hb;by_cases hx:xs.length=0
  ·obtain rfl:=List.length_eq_zero_iff.1 hx;clear hx ho hL;refine ay (N:=8) func71 rfl rfl fun z hP hO hro hN hQ=>?_
   repeat' first|simp(disch:=try exact yj) only[go_sem, *,List.length_nil] | (apply xs<;>intro _)<;>try omega|refine fun (_ _:List Nat)=>?_ | (first|refine bD func141 rfl ?_ ?_ ?_ ?_ |refine bD func208 rfl ?_ ?_ ?_ ?_ |fail)<;>intros
   refine⟨_,rfl,.inl ⟨rfl,rfl⟩,?_,?_,by omega⟩
   ·repeat refine Kept.set' hW qJ ?_
    exact Kept.refl _
   ·(repeat refine bQ.set' qJ ?_);first|assumption|exact bQ.mono (by assumption) qJ
  ·have hb0:xs.length.beq 0=false:=by cases hl:xs.length with
    |zero=>omega
    |succ m=>rfl
   have zn:xs.length.ble 0=false:=by cases hl:xs.length with
    |zero=>omega
    |succ m=>rfl
   have ho2:(off+xs.length).ble L.length=true:=by
    rw[hb0,Bool.or_false] at ho;exact ho
   refine ay (N:=8) func71 rfl rfl fun z hP hO hro hN hQ=>?_
   repeat' first|simp(disch:=try exact yj) only[go_sem, *] | (apply xs<;>intro _)<;>try omega|refine fun (_ _:List Nat)=>?_ | (first|refine bD func141 rfl ?_ ?_ ?_ ?_ |refine bD func208 rfl ?_ ?_ ?_ ?_ |fail)<;>intros
   refine⟨_,rfl,.inr ⟨n+1+1+1+1,_,rfl,by omega,by (repeat rw[az qJ]);exact aI⟩,?_,?_,by omega⟩
   ·repeat refine Kept.set' hW qJ ?_
    exact Kept.refl _
   ·(repeat refine bQ.set' qJ ?_);first|assumption|exact bQ.mono (by assumption) qJ
end
end Go.Proofs.YtofmbmclopgldaaGreat
namespace Go.Proofs.YtofmbmclopgldaaGreat
open Go.Am
theorem JC{l:List Nat}(h:Sub l []):l=[]:=by
 cases l with
 |nil=>rfl
 |cons x r=>exact absurd (h x (by simp)) (by simp)
structure Sf(j:Nat)(B:Option aj)(h1 h:PT aj):Prop where
 on:∀ i,i≠j→h.get i=h1.get i
 off:h1.get j=none
 at':h.get j=B
theorem Sf.mk'{j:Nat}(h:PT aj):Sf j (h.get j) (h.set j none) h:=⟨fun i hi=>(az fun e=>hi e.symm).symm,aI,rfl⟩
theorem JD{pr:Program}{O:Over}{f:FuncId}{args:List Value}{h1 h:PT aj}{n j:Nat}{B:Option aj}{R:Value→PT aj→Nat→Prop}(b:Sf j B h1 h)(hj:j<n)(e:cE pr O f args h1 n R):
  cE pr O f args h n fun v h' n'=>∃ h1',R v h1' n'∧n≤n'∧Sf j B h1' h':=by
 have b0:Bg (fun i=>i≠j) (fun _=>B) n h1 h:=⟨fun i hi=>b.on i (by rcases hi with q |q;exact q;omega),fun i hi=>by
  have:i=j:=Classical.byContradiction fun q=>hi (.inl q);subst this;exact⟨b.off,b.at'⟩⟩
 obtain⟨k,v,h1',n',e,hR⟩:=e;obtain⟨rd',wr',h',u,b1,l1,u1,u2,-,-⟩:=BO (aX:=0) (lim:=0) (G4 k) f args h1 n [] [] v (S0 h1' n') (Nat.le_refl _) e h b0 [] [];have e1:=JC (u1 rfl (Sub.refl _));have e2:=JC (u2 rfl (Sub.refl _));subst e1 e2;exact⟨k,v,h',n',u,h1',hR,l1,⟨fun i hi=>b1.on i (.inl hi),(b1.off j (by simp;omega)).1,(b1.off j (by simp;omega)).2⟩⟩
theorem Sf.st{j n:Nat}{B:Option aj}{h1 h:PT aj}{d:Rl→Nat}{C:Rl→Option aj}(b:Sf j B h1 h)(S:St h1 n d C)(hj:j<n):St h n d C:=by
 refine⟨fun r D e=>?_,S.inj,bQ.of_lt fun i D e=>?_⟩
 ·have e1:=S.get r D e;by_cases c:d r=j
  ·rw[c,b.off] at e1;simp at e1
  ·rw[b.on _ c];exact e1
 ·by_cases c:i=j
  ·omega
  ·rw[b.on i c] at e;exact S.wf.lt e
theorem Sf.set{j:Nat}{B:Option aj}{h1 h:PT aj}(b:Sf j B h1 h)(D:Option aj):Sf j D h1 (h.set j D):=⟨fun i hi=>by rw[az fun e=>hi e.symm];exact b.on i hi,b.off,aI⟩
section
variable {th sl en bu kd dn t0 t1 t2 t3 t4 t5 lo tr ba:Int} {xs:List Int}
def VD(sl en bu lo kd dn t0 t1 t2 t3 t4 t5:Int)(xs:List Int)(h1:PT aj)(n1:Nat)(hz:PT aj)(nz lb jX:Nat)(l:dg)(sz:Nat)(cv hv:Value)(S2:List Value):Ev:=
 ⟨h1,n1,hz,nz,lb,jX,l,aC kd dn xs,sz,(l.P.getD 5 0).toNat,(l.P.getD 6 0).toNat,kd,dn,xs,cv,hv,S2,cY sl en bu lo (aC kd dn xs) (hts 1 [t0,t1,t2,t3,t4,t5])⟩
theorem ahv{h1 hz:PT aj}{n1 nz lb jX gb sz:Nat}{l:dg}{cv cv2 hv wv:Value}(hL:Hv th sl en bu kd dn t0 t1 t2 t3 t4 t5 lo tr ba xs h1 lb l gb cv)(hn:qy l (aC kd dn xs) sz)(hpos:∀ x∈xs,0≤x∧x<18446744073709551616)
  (nX:hz.get jX=row ([I6 th,I6 sl,U8 en,I6 bu,U8 kd,I6 dn,cv2,I6 t0,I6 t1,I6 t2,I6 t3,I6 t4,I6 t5,I6 lo,I6 tr,I6 ba]++(placesOf sl en bu lo (aC kd dn xs) (hts 1 [t0,t1,t2,t3,t4,t5])).map (.int .i64)++[hv,wv]))
  (AF:aN .u64 hz cv2 xs) (FC:aN .i64 hz hv (hts 1 [t0,t1,t2,t3,t4,t5])) (hlk:(Ll (pt jX)).look hz=some (cY sl en bu lo (aC kd dn xs) (hts 1 [t0,t1,t2,t3,t4,t5]))):
  tF (VD sl en bu lo kd dn t0 t1 t2 t3 t4 t5 xs h1 n1 hz nz lb jX l sz cv2 hv ([I6 th,I6 sl,U8 en,I6 bu,U8 kd,I6 dn,cv2,I6 t0,I6 t1,I6 t2,I6 t3,I6 t4,I6 t5,I6 lo,I6 tr,I6 ba]++(placesOf sl en bu lo (aC kd dn xs) (hts 1 [t0,t1,t2,t3,t4,t5])).map (.int .i64)++[hv,wv])):=by
 have ok:=hL.ok;have mM:=cr ok;have Ld:=yG ok;have hV:=ji mM.1;have Xd:=jQ ⟨mM.2.2.2.2.2.1,mM.2.2.2.2.2.2.1⟩;have Xi:=gJ (en:=en) mM.2.2.1.1 mM.2.2.1.2 mM.2.2.2.1.1 mM.2.2.2.1.2;have hbd:=hn.yL.bd;have eH:=hL.H;have i5:=hn.yL.p5;have i6:=hn.yL.p6;have i9:=hn.yL.p9;have e9:=hn.p9;have z2:=hn.RY;have e7:l.P.getD 7 0=cL sl en bu lo (hts 1 [t0,t1,t2,t3,t4,t5]):=by rw[hL.P];rfl
 have e8:l.P.getD 8 0=cL sl en bu lo (hts 1 [t0,t1,t2,t3,t4,t5])+aC kd dn xs*7:=by rw[hL.P];rfl
 have hsl:0≤sl:=by omega
 have hlo:0≤lo:=by omega
 have rP:=Fg (V:=aC kd dn xs) (en:=en) (bu:=bu) (H:=hts 1 [t0,t1,t2,t3,t4,t5]) hsl Xi.1 hlo qJ fun i hi=>by rw[←eH] at hi ⊢;exact(hbd i hi).1
 have hpe:=hn.h_;rw[e8,eH] at hpe;have ahx:∀ j,j<(hts 1 [t0,t1,t2,t3,t4,t5]).length→1≤(hts 1 [t0,t1,t2,t3,t4,t5]).getD j 0∧(hts 1 [t0,t1,t2,t3,t4,t5]).getD j 0≤6:=fun j hj=>by rw[←eH] at hj ⊢;exact hbd j hj
 obtain⟨rest,hS⟩:=hL.cells;have hdn : -9223372036854775808≤dn∧dn≤9223372036854775807:=by
  have hd:=mM.1;unfold cq at hd;split at hd
  ·simp only[Bool.and_eq_true,decide_eq_true_eq] at hd;omega
  ·split at hd
   ·simp only[Bool.and_eq_true,decide_eq_true_eq] at hd;omega
   ·split at hd
    ·simp only[Bool.and_eq_true,decide_eq_true_eq] at hd;omega
    ·simp at hd
 refine⟨hL.look,hn,?_,?_,?_,?_,nX,?_,hlk,?_,fun r lv h1 h2=>?_,fun t w=>?_,?_,AF,mM.1,rfl,hpos,hdn⟩
 ·show l.P.getD 5 0=((l.P.getD 5 0).toNat:Int);omega
 ·show l.P.getD 6 0=((l.P.getD 6 0).toNat:Int);omega
 ·show (l.P.getD 6 0).toNat≤60000;omega
 ·exact⟨th,sl,en,bu,t0,t1,t2,t3,t4,t5,lo,tr,ba,cv,rest,hS,hL.Cg⟩
 ·refine⟨th,sl,en,bu,t0,t1,t2,t3,t4,t5,lo,tr,ba,wv,?_⟩;unfold VD;dsimp only;rw[hL.P]
 ·show (cY sl en bu lo (aC kd dn xs) (hts 1 [t0,t1,t2,t3,t4,t5])).length=sz;omega
 ·exact LI hsl Xi.1 hlo qJ eH hL.T hL.V e7 ahx qJ qJ qJ ⟨h1,h2⟩
 ·exact LH hsl Xi.1 hlo qJ eH hL.T ahx qJ qJ
 ·show aN .i64 hz hv l.H
  rw[eH];exact FC
end
end Go.Proofs.YtofmbmclopgldaaGreat
namespace Go.Proofs.YtofmbmclopgldaaGreat
open Go.Am Go.Proofs.Tryz
def Sd.yL(E:Ev):Sd:=⟨pK E.l,[],0,List.replicate (E.l.H.length+1) 0⟩
theorem RfN.rf{E:Ev}{W:List Int}{d:Rl→Nat}{C:Rl→Option aj}(R:RfN E.jX E.l.H.length W d C):Rf E W [] 0 (List.replicate (E.l.H.length+1) 0) d C:=by
 obtain⟨m0,⟨pv,vv,m1⟩,m2,m3,m4,m5,m6,m7,m8⟩:=R;refine⟨m0,⟨pv,vv,?_⟩,?_,?_,?_,?_,m6,?_,?_,by rw[List.length_replicate]⟩
 ·rw[List.length_replicate];exact m1
 ·rw[List.length_replicate];exact m2
 ·rw[m3,iE];simp[CT]
 ·rw[m4,iE];simp
 ·rw[m5,iE];simp
 ·rw[m7,iE];simp[EM]
 ·rw[m8,iE];simp[Lt]
theorem Pg.start{E:Ev}{sl en:Int}{n1:Nat}{d d':Rl→Nat}{C C':Rl→Option aj}(ok:tF E)(N:afF sl en E.h1 n1 d C E.lb E.l)(fr:∀ a,a∈sA→d' (a,0)=d (a,0)∧C' (a,0)=C (a,0)):Pg E (pK E.l) [] 0 (List.replicate (E.l.H.length+1) 0) d' C':=by
 obtain⟨F,M,B,-,-⟩:=N;have I:=ok.num.yL;have e9:=ok.num.p9;have z2:=ok.num.RY;have i5:=I.p5;have i6:=I.p6;have i9:=I.p9;have e5:=ok.e5;have e6:=ok.e6;have hr:∀ u,(List.replicate (E.l.H.length+1) (0:Int)).getD u 0=0:=fun u=>by
  simp only[List.getD,List.getElem?_replicate];split<;>rfl
 have hr2:∀ u,(List.replicate E.l.H.length (0:Int)).getD u 0=0:=fun u=>by
  simp only[List.getD,List.getElem?_replicate];split<;>rfl
 have P0:Pg E (pK E.l) [] 0 (List.replicate (E.l.H.length+1) 0) d C:=by
  refine⟨fun k=>sX E.l.H ((k:Int)+1) 1,fun _=>0,[],0,[],0,M,B,?_,⟨by rw[List.length_replicate],hr 0,fun u=>by rw[hr];decide,I.len,by rw[List.length_replicate],fun j t _ _=>hr t,⟨by simp,by simp,by simp,by simp,by simp⟩,fun x=>⟨fun ⟨e,he,_⟩=>by simp at he,fun ⟨u,_,_,_,h4⟩=>absurd (hr u) h4⟩,fun u=>by rw[hr2];exact⟨Int.le_refl _,Int.le_refl _⟩,fun u _ _=>?_,fun u i v _ _ hf=>by simp[bW] at hf⟩,fun _ _=>Int.le_refl _⟩
  ·unfold pK;rw[show (E.l.P.getD 5 0).toNat=E.p5 by omega,show (E.l.P.getD 6 0).toNat=E.p6 by omega];exact Xg.init qJ qJ rfl
  ·rw[hr];exact .inl rfl
 exact P0.of fr
section
variable {h:PT aj} {n:Nat}
theorem aaG(hW:bQ h n){th sl en bu kd dn t0 t1 t2 t3 t4 t5 lo tr ba:Int}{s:Value}{xs:List Int}(hs:aN .u64 h s xs)(sm:Vz th sl en bu kd dn t0 t1 t2 t3 t4 t5 lo tr ba xs):
  cE prog OB 26 [.agg ⟨[I6 th,I6 sl,U8 en,I6 bu,U8 kd,I6 dn,s,I6 t0,I6 t1,I6 t2,I6 t3,I6 t4,I6 t5,I6 lo,I6 tr,I6 ba]⟩] h n fun v h' n'=>∃ (E:Ev) (d':Rl→Nat) (C':Rl→Option aj),v=iU [two d',.bool true]∧Kept h E.h1∧n≤E.n1∧Tw E (Sd.yL E) (Sd.yL E) d' C' h' n'∧agI E∧E.V≤5∧OfR E.h1 E.lb E.l E.V:=by
 have ok:=sm.cfg;have RS:=wI sm.hdom;obtain⟨sa,sc,rfl,-⟩:=hs.len;refine ay (N:=28) func26 rfl rfl fun z hP hO hro hN hQ=>?_
 repeat' first|simp(disch:=try exact yj) only[go_sem, *] | (apply xs<;>intro _)<;>try omega
 generalize Hy:(h.set n _).set (n+1) _=h1;have W1:bQ h1 (n+1+1):=by
  rw[←Hy]
  (repeat refine bQ.set' qJ ?_);first|assumption|exact bQ.mono (by assumption) qJ
 have K1:Kept h h1:=by
  rw[←Hy]
  repeat refine Kept.set' hW qJ ?_
  exact Kept.refl _
 have e1:h1.get n=row [I6 th,I6 sl,U8 en,I6 bu,U8 kd,I6 dn,.slice sa xs.length sc,I6 t0,I6 t1,I6 t2,I6 t3,I6 t4,I6 t5,I6 lo,I6 tr,I6 ba]:=by rw[←Hy,az qJ];exact aI
 have e1b:h1.get (n+1)=row [.pointer none,.pointer none]:=by rw[←Hy];exact aI
 clear Hy;refine jg (Rm W1 (hs.keep K1) qJ) ?_;rintro v h2 n2 ⟨s2,rfl,tM,k2,W2,l2⟩;have e2:=k2 _ _ e1;have e2b:=k2 _ _ e1b;have K2:=K1.trans k2;clear e1 e1b k2 K1 W1;have bt:=Sf.mk' (j:=n+1) h2;have aaH:aN .u64 (h2.set (n+1) none) s2 xs:=by
  rcases tM with q | ⟨b,c,q1,q2,q3⟩
  ·exact .inl q
  ·exact pJ.cR (N:=0) (.inr ⟨b,c,q1,Nat.zero_le _,by rw[az qJ];exact q3⟩)
 have W2':bQ (h2.set (n+1) none) n2:=W2.set qJ qJ;obtain⟨sa2,sc2,rfl,-⟩:=aaH.len
 repeat' first|simp(disch:=try exact yj) only[go_sem, *] | (apply xs<;>intro _)<;>try omega
 refine jg (JD bt qJ (aq' th sl en bu kd dn t0 t1 t2 t3 t4 t5 lo tr ba _ xs _ _ W2' aaH qJ)) ?_;rintro v h3 n3 ⟨h3',(⟨c,-⟩ | ⟨hA,nA,lb,l,gb,cv,sz,d,C,rfl,kA,hnA,hL,hn,S3,NB⟩),l3,b3⟩
 ·rw[ok] at c;simp at c
 have KA:=(Kept.nm (B:=none) K2 (bQ.fresh hW (show n≤n+1 by omega))).trans kA;have KF:=NB.fz.kept S3;have e3':=KF _ _ (kA n _ (by rw[az qJ];exact e2));have e3:=(b3.on n qJ).trans e3';have hs3:=(hs.keep KA).keep KF;have NC:=uu (show xs.length<1000000000000000 by omega) fun x hx=>(sm.hpos x hx).1;clear kA W2 W2' bt e2 tM aaH K2
 repeat' first|simp(disch:=try exact yj) only[go_sem, *] | (apply xs<;>intro _)<;>try omega
 refine jg (JD b3 qJ (ahp S3 hs3 NC ok)) ?_;rintro v h4 n4 ⟨h4',⟨jX,cv2,hv,wv,hz,nz,d',C',rfl,⟨l4,lz⟩,S4,fz4,F4,ZQ,nX,atb,FC,hlk,RN⟩,-,b4⟩;have e4b:=b4.at'.trans e2b;clear e3 e3' KF hs3 NC b3
 repeat' first|simp(disch:=try exact yj) only[go_sem, *] | (apply xs<;>intro _)<;>try omega
 have TR:=ahv (n1:=nA) (nz:=nz) hL hn sm.hpos nX atb FC hlk;have b5:=b4.set (row [pt (d (70,0)),pt (d' qB)]);have S5:=b5.st S4 qJ;have f70:=(ZQ (70,0) qi qi).1;have atc:nA≤n3:=by
  have q1:=NB.fz.lo _ _ qi NB.mem.words;have q2:=S3.lt NB.mem.words;omega
 have F5:=fz4 _ _ atc NB.fz;have hV5:=sm.as8;have i5:=hn.yL.p5;have i6:=hn.yL.p6;have i9:=hn.yL.p9;have e9:=hn.p9;have e5':l.P.getD 5 0=0+sl*1+1*bH en sl bu+1+lo*3+lo*1:=by rw[hL.P];rfl
 have e6':l.P.getD 6 0=0+sl*1+1*bH en sl bu+1+lo*3+lo*1+6:=by rw[hL.P];rfl
 have eWl:(cY sl en bu lo (aC kd dn xs) (hts 1 [t0,t1,t2,t3,t4,t5])).length=sz:=TR.wl;have eW:jR (0+sl*1+1*bH en sl bu+1+lo*3+lo*1).toNat (0+sl*1+1*bH en sl bu+1+lo*3+lo*1+6).toNat (cY sl en bu lo (aC kd dn xs) (hts 1 [t0,t1,t2,t3,t4,t5])).length (hts 1 [t0,t1,t2,t3,t4,t5]) 0=pK l:=by
  unfold pK;rw[e5',e6',hL.H,eWl,show (l.P.getD 9 0).toNat=sz by omega]
 rw[eW,←hL.H] at RN;have rQ:(pK l).length=sz:=by unfold pK;rw[jS];omega
 have hWu:∀ x∈pK l,0≤x∧x<18446744073709551616:=PB hn.yL.len;have mM:=cr ok;have Xi:=gJ (en:=en) mM.2.2.1.1 mM.2.2.1.2 mM.2.2.2.1.1 mM.2.2.2.1.2;refine⟨_,d',C',by unfold two;rw[f70],KA,by show n≤nA;omega,⟨TR,by show nA≤n4;omega,lz,S5,F5,F4,Pg.start TR NB fun a ha=>ZQ (a,0) (by show a≠9998;intro q;subst q;simp at ha) (by show a<100∨_;simp only[List.mem_cons,List.not_mem_nil,or_false] at ha;omega),RfN.rf RN,hWu,hWu,rQ,rQ⟩,?_,hV5,hL.ofr⟩;refine⟨0,0+sl*1,0+sl*1+1*bH en sl bu,0+sl*1+1*bH en sl bu+1,0+sl*1+1*bH en sl bu+1+lo*3,cL sl en bu lo (hts 1 [t0,t1,t2,t3,t4,t5])+aC kd dn xs*7,?_,?_⟩
 ·unfold VD;dsimp only;have h9:cS (cL sl en bu lo (hts 1 [t0,t1,t2,t3,t4,t5])+aC kd dn xs*7) (hts 1 [t0,t1,t2,t3,t4,t5])=(sz:Int):=by
   have:=hn.h_;rw[hL.H,show l.P.getD 8 0=cL sl en bu lo (hts 1 [t0,t1,t2,t3,t4,t5])+aC kd dn xs*7 by rw[hL.P];rfl] at this;exact this
  have h7:cL sl en bu lo (hts 1 [t0,t1,t2,t3,t4,t5])=((l.P.getD 6 0).toNat:Int)+l.H.length:=by
   unfold cL;rw[hL.H];omega
  have h5:((l.P.getD 5 0).toNat:Int)=0+sl*1+1*bH en sl bu+1+lo*3+lo*1:=by omega
  have h6:((l.P.getD 6 0).toNat:Int)=0+sl*1+1*bH en sl bu+1+lo*3+lo*1+6:=by omega
  rw[←h7,h5,h6,←h9,hL.P];rfl
 ·unfold VD;dsimp only;have hsl:=mM.2.2.1;have hlo:=mM.2.2.2.2.1;omega
end
end Go.Proofs.YtofmbmclopgldaaGreat
