/-
A part.
-/
import Derived.Test.YtofmbmclopgldaaGreatSL8
set_option linter.all false
set_option maxRecDepth 100000
set_option maxHeartbeats 32000000
namespace Go.Proofs.YtofmbmclopgldaaGreat
open Go.Am Go.Proofs.Tryz
structure SS where
 pc:Int
 nd:Int
 lv:Nat
 c:Int
 bf:List Int
 af:List Int
 fo:Int
def Jt(E:Ev)(w:Int)(lv:Nat):Int:=if (1≤w∧w≤E.l.H.length)∧(lv:Int)<hgt E.l w then w else 0
def SS.ends(s:SS):SS:=⟨if s.lv=0 then 0 else 21,s.nd,s.lv-1,s.c,s.bf.set s.lv s.nd,s.af.set s.lv s.c,s.fo⟩
def SS.nx(E:Ev)(s:SS)(w:Int):SS:=if Jt E w s.lv=0 then SS.ends ⟨s.pc,s.nd,s.lv,0,s.bf,s.af,s.fo⟩ else ⟨22,s.nd,s.lv,Jt E w s.lv,s.bf,s.af,s.fo⟩
def SS.lk(s:SS)(key k:Int):SS:=if k<key then ⟨21,s.c,s.lv,s.c,s.bf,s.af,s.fo⟩ else SS.ends ⟨s.pc,s.nd,s.lv,s.c,s.bf,s.af,if k=key∧s.fo=0 then s.c else s.fo⟩
def SS.ad(E:Ev)(s:SS):Nat:=if s.pc=21 then na E.l s.nd s.lv else ta E.l s.c
def SS.step(E:Ev)(s:SS)(key w:Int):SS:=if s.pc=21 then s.nx E w else if s.pc=22 then s.lk key w else s
structure rN(E:Ev)(s:SS):Prop where
 lv:s.lv<6
 bf:s.bf.length=6
 af:s.af.length=6
 pc:s.pc=0∨s.pc=21∨s.pc=22
 nd:s.pc≠0→Nd E.l E.V s.nd s.lv
 c:s.pc=22→ux E.l s.c∧(s.lv:Int)<hgt E.l s.c
def SS.new(v:Int):SS:=⟨21,-1-v,5,0,[0,0,0,0,0,0],[0,0,0,0,0,0],0⟩
section
variable {E:Ev} {s:SS} {key w v:Int}
theorem rN.new(hv:0≤v∧v<E.V):rN E (SS.new v):=
 ⟨show 5<6 by decide,rfl,rfl,.inr (.inl rfl),fun _=>⟨show (0:Int)≤((5:Nat):Int) by decide,.inl ⟨by show -1-v<0;omega,by show -1-(-1-v)<E.V;omega,show ((5:Nat):Int)<6 by decide⟩⟩,fun q=>absurd q (by show ¬(21:Int)=22;decide)⟩
theorem rN.ends{pc nd c fo:Int}{lv:Nat}{bf af:List Int}(hl:lv<6)(hb:bf.length=6)(ha:af.length=6)(hn:Nd E.l E.V nd lv):rN E (SS.ends ⟨pc,nd,lv,c,bf,af,fo⟩):=by
 refine⟨by show lv-1<6;omega,by show (bf.set lv nd).length=6;simpa using hb,by show (af.set lv c).length=6;simpa using ha,?_,fun q=>?_,fun q=>?_⟩
 ·by_cases c0:lv=0
  ·exact .inl (if_pos c0)
  ·exact .inr (.inl (if_neg c0))
 ·obtain⟨h0,h⟩:=hn;refine⟨by show (0:Int)≤((lv-1:Nat):Int);omega,?_⟩
  rcases h with h |h
  ·exact .inl ⟨h.1,h.2.1,by show ((lv-1:Nat):Int)<6;omega⟩
  ·exact .inr ⟨h.1,Int.lt_of_le_of_lt (show ((lv-1:Nat):Int)≤lv by omega) h.2⟩
 ·exfalso;have q':(if lv=0 then (0:Int) else 21)=22:=q;split at q'<;>omega
theorem aav{lv:Nat}(h:Jt E w lv≠0):Jt E w lv=w∧ux E.l w∧(lv:Int)<hgt E.l w:=by
 unfold Jt at h ⊢;split at h
 ·rename_i c;rw[if_pos c];exact⟨rfl,c.1,c.2⟩
 ·exact absurd rfl h
theorem rN.step(H:rN E s):rN E (s.step E key w):=by
 obtain⟨h1,h2,h3,h4,h5,h6⟩:=H;unfold SS.step;split
 ·rename_i c;have hn:=h5 qJ;unfold SS.nx;split
  ·exact rN.ends h1 h2 h3 hn
  ·rename_i c2;obtain⟨e,q1,q2⟩:=aav c2;refine⟨h1,h2,h3,.inr (.inr rfl),fun _=>hn,fun _=>?_⟩
   show ux E.l (Jt E w s.lv)∧_
   rw[e];exact⟨q1,q2⟩
 ·split
  ·rename_i c;have hn:=h5 qJ;have hc:=h6 c;unfold SS.lk;split
   ·exact⟨h1,h2,h3,.inr (.inl rfl),fun _=>⟨by show (0:Int)≤(s.lv:Int);omega,.inr hc⟩,fun q=>absurd q (by show ¬(21:Int)=22;decide)⟩
   ·exact rN.ends h1 h2 h3 hn
  ·exact⟨h1,h2,h3,h4,h5,h6⟩
end
def Sd.ld(s:Sd)(th:Int)(a:Nat):Sd:=⟨s.W,s.L++gU th a 1 (vm s.W a) (vm s.W a) false,s.k+1,s.K⟩
section
variable {E:Ev} {a b:Sd} {d:Rl→Nat} {C:Rl→Option aj} {h:PT aj} {n:Nat}
theorem Xu(T:Tw E a b d C h n)(hka:a.k≤90000){th:Int}{i:Nat}(ht:0≤th∧th<64)(hi:i<E.sz):
  cE prog OB 163 [pt (d rM),I6 th,I6 i] h n fun v h' n'=>∃ d' C',v=iU [U6 (vm a.W i),I6 0]∧Nz n d C mA [(2,0)] d' C' h' n'∧Tw E (a.ld th i) b d' C' h' n':=by
 have U1:i<a.W.length:=by rw[T.la];exact hi
 obtain⟨stk,tag,X,xk,R,rk,M,B,Pk,I,EV⟩:=T.pg;refine(PZ T.st M qJ ht U1).mono ?_;rintro v h' n' ⟨d',C',rfl,N,M2⟩;refine⟨d',C',by rw[iJ U1],N,T.ZK (a':=a.ld th i) N qi qi (T.pg.mem (by rw[←iJ U1] at M2;exact M2) (fun r h1 h2 h3 h4=>⟨N.dd r fun q=>by simp at q;exact h4 (by rw[q]),N.cc r fun q=>by simp at q;rcases q with q |q |q<;>simp[q] at h2 h3 h4⟩) (N.dd rM qi) (by simp[Sd.ld]) (by simp[Sd.ld]) fun j h1 h2=>rfl)
   T.ua T.la⟩
theorem QD(T:Tw E a b d C h n)(hkb:b.k≤90000){th:Int}{i:Nat}(ht:0≤th∧th<64)(hi:i<E.sz):
  cE prog OB 90 [pt (d qM),I6 th,I6 i] h n fun v h' n'=>∃ d' C',v=iU [U6 (vm b.W i),I6 0]∧Nz n d C mB [(103,0)] d' C' h' n'∧Tw E a (b.ld th i) d' C' h' n':=by
 have hib:i<b.W.length:=by rw[T.lb];exact hi
 refine(HE oQ T.st T.rf.mem qJ ht hib).mono ?_;rintro v h' n' ⟨d',C',rfl,N,M2⟩;rw[←iJ hib] at M2;exact⟨d',C',by rw[iJ hib],N,T.atB (b':=b.ld th i) N qi qi (T.rf.acc N M2) T.ub T.lb⟩
end
end Go.Proofs.YtofmbmclopgldaaGreat
namespace Go.Proofs.YtofmbmclopgldaaGreat
open Go.Am Go.Proofs.Tryz
abbrev aP:List Rl:=[(0,0),(1,0),(2,0),(4,0),(70,0),(71,0),(72,0),(73,0),(74,0),(75,0),(76,0),(77,0),(78,0),(140,0),(141,0),(142,0),(143,0)]
theorem Pg.vl{E:Ev}{W:List Int}{L:List Value}{k:Nat}{K:List Int}{d:Rl→Nat}{C:Rl→Option aj}(P:Pg E W L k K d C):Pg E W L k K d (vl aP C):=P.of fun a ha=>⟨rfl,pO (by
 simp only[List.mem_cons,List.not_mem_nil,or_false] at ha
 rcases ha with rfl|rfl|rfl|rfl|rfl|rfl|rfl|rfl|rfl|rfl|rfl|rfl|rfl<;>simp)⟩
theorem Vo{z:Zx}{Lo:List (Nat×Nat)}{f:Value→AP aG}{d:Option Nat}{ops r:List Oper}{K:List KF}{m:Tm}{h:PT aj}{n lo pb rr xk:Nat}{rd wr:List Nat}{fs:List bO}{v0 v1 v2 v3 v5:Value}{X:List cK}(hp:h.get pb=row [v0,v1,v2,v3,.map (some rr),v5])(hm:h.get rr=some (.map (ef .i64 X) xk))(H:oh X xk):
  lD z Lo ((KM ⟨pb,0,none⟩).bind f) d ops r K m h n lo rd wr fs↔if X.length=0 then lD z Lo (f (.slice none 0 0)) d ops r K m h n lo (rr::pb::rd) wr fs else lD z Lo (f (.slice (some ⟨n,0,none⟩) X.length (aA+1))) d ops r K m (h.set n (row ((cO X).map (.int .i64)))) (n+1) lo (rr::pb::rd) wr fs:=by
 have hk:=rI H.val;have hlen:=gO (X:=X);unfold KM;have hok:=H.ok;have hL:kQ (X.map fun e=>e.1)=cO X:=rfl;simp only[AP.bind,Ii,hp,Af,PT.aQ,Nat.zero_add,List.getElem?_cons_succ,List.getElem?_cons_zero,hm,hk,hok,cond_true,hL];unfold TS;by_cases c:X.length=0
 ·rw[if_pos c];have:cO X=[]:=List.length_eq_zero_iff.1 qJ;rw[this];rfl
 ·rw[if_neg c];cases ho:cO X with
  |nil=>rw[ho] at hlen;simp at hlen;omega
  |cons y L=>rw[ho] at hlen;rw[←hlen];rfl
section
variable {E:Ev} {s:Sd} {d:Rl→Nat} {C:Rl→Option aj} {h:PT aj} {n:Nat}
theorem HO(T:Tw E s s d C h n)(hk:s.k≤100000){A:List Acc}(hA:s.L=zN A):
  cE prog OB 35 [two d] h n fun v h' n'=>v = .bool true:=by
 have IZ:=T.ok.num.yL.len;have rQ:s.W.length≤20000:=by have:=T.la;have:=T.ok.num.RY;omega
 have hKl:s.K.length=E.l.H.length+1:=T.rf.len;obtain⟨stk,tag,X,xk,R,rk,M,B,Pk,I,EV⟩:=T.pg;obtain⟨pv,vv,qb⟩:=T.rf.base;have mV:=B.base;have hKv:=I.kv;refine ay (N:=73) func35 rfl rfl fun z hP hO hro hN hQ=>?_
 repeat' first|simp(disch:=try exact yj) only[go_sem, *] | (apply xs<;>intro _)<;>try omega
 obtain⟨d1,C1,N1,Ju,E7⟩:∃ d1 C1,Nz n d C [(147,0)] [(147,0)] d1 C1 (h.set n (row [pt (d (70,0)),pt (d qB)])) (n+1)∧d1 (147,0)=n∧C1 (147,0)=row [pt (d (70,0)),pt (d qB)]:=
  ⟨_,_,Nz.new qi (Nat.le_refl _) (Nat.le_succ _) (T.st.new (147,0) _ (Nat.le_refl _) (Nat.lt_succ_self _)),aq,aq⟩
 have T1:=T.own N1 qi qi;have agL:=N1.dd (70,0) qi;have Vp:=N1.dd qB qi;generalize h.set n _=h1 at*;clear stk tag X xk R rk M B Pk I EV qb mV;obtain⟨aGJ,aGK,X1,xk1,R1,rk1,M1,B1,Pk1,I1,aGL⟩:=T1.pg;obtain⟨pv1,vv1,qb1⟩:=T1.rf.base;obtain⟨⟨wc1,qm1⟩,qw1,ql1,-⟩:=T1.rf.mem;have ar6:=B1.base;have Xv:=T1.st.at E7;rw[Ju] at Xv;have agM:=T1.st.at ar6;rw[agL] at agM;have agN:=T1.st.at qb1;rw[Vp] at agN;have ar7:=T1.st.at qm1;have agO:=T1.st.lt E7;rw[Ju] at agO;have ar8:=T1.st.lt qb1;rw[Vp] at ar8;have ar9:=T1.st.lt qm1
 repeat' first|simp(disch:=try exact yj) only[go_sem, *,List.append_eq,List.cons_append,List.nil_append] | (apply xs<;>intro _)<;>try omega | ((with_reducible refine b8 1 ?_);refine dw 73 1 agu (by first | (simp only[go_sem, *];done)|rfl) (by kernel_rfl) (by kernel_rfl) ?_)
 refine lN aP T1.st (fun hh SS=>aac SS (M1.vl (by simp)) qJ) (by simp) (by simp) hP hO hN.symm (by rw[hO];rfl) ?_;rintro v2 h2 n2 d2 C2' C2 N2 hC2 Sz rd wr hm;have T2:=T1.own N2 qi qi;have tK:=hm _ (T1.st.lt E7) (T1.st.off E7 qi);rw[Ju] at tK;have EW:=hm _ (T1.st.lt qb1) (T1.st.off qb1 qi);rw[Vp] at EW;have Jv:=hm _ (T1.st.lt qm1) (T1.st.off qm1 qi);have CB:=N2.dd qM qi;rw[←CB] at Jv;have CD:=ar9;rw[←CB] at CD;clear hm CB Xv agM agN ar7;have E8:=(N2.cc (147,0) qi).trans E7;have Jw:=(N2.dd (147,0) qi).trans Ju;have agP:=(N2.dd (70,0) qi).trans agL;have Vq:=(N2.dd qB qi).trans Vp;obtain⟨aGM,aGN,X2,xk2,R2,rk2,M2,B2,Pk2,I2,aGO⟩:=T2.pg;obtain⟨pv2,vv2,HK⟩:=T2.rf.base;obtain⟨⟨RW,qm2⟩,qw2,ql2,-⟩:=T2.rf.mem;have ar_:=B2.base;have Xw:=T2.st.at E8;rw[Jw] at Xw;have agQ:=T2.st.at ar_;rw[agP] at agQ;have agR:=T2.st.at HK;rw[Vq] at agR;have ar':=T2.st.at qm2;have agS:=T2.st.lt E8;rw[Jw] at agS;have asa:=T2.st.lt HK;rw[Vq] at asa;have asb:=T2.st.lt qm2;obtain⟨⟨m1,m2⟩,m3,m4⟩:=tK;obtain⟨⟨m5,m6⟩,m7,m8⟩:=EW;obtain⟨⟨m9,m10⟩,m11,m12⟩:=Jv;have hi2:=rK.cR (h:=h2) (n:=n2) N2.st (v:=v2) (xs:=s.W) (k := .u64) (r:=(140,0)) (by
  rcases Sz with q | ⟨c,q1,q2⟩
  ·exact .inl q
  ·exact .inr ⟨c,q1,(hC2 (140,0) (by simp)).trans q2⟩)
 obtain⟨va2,vc2,rfl,-⟩:=hi2.len;have hj2:aN .u64 h2 (.slice (some ⟨d2 qW,0,none⟩) s.W.length RW) s.W:=pJ.cR (N:=0) (.inr ⟨_,_,rfl,Nat.zero_le _,T2.st.at qw2⟩);clear Sz hC2
 repeat' first|simp(disch:=try exact yj) only[go_sem, *,List.append_eq,List.cons_append,List.nil_append] | (apply xs<;>intro _)<;>try omega
 refine jg (HI (O:=OB) s.W s.W _ _ h2 n2 hi2 hj2 qJ qJ) ?_;rintro y hx nx ⟨rfl,ex,en⟩;obtain rfl:=ex.symm;obtain rfl:=en.symm;intro Sc Se;rw[show decide (s.W=s.W)=true from decide_eq_true rfl];clear hi2 hj2
 repeat' first|simp(disch:=try exact yj) only[go_sem, *,List.append_eq,List.cons_append,List.nil_append] | (apply xs<;>intro _)<;>try omega
 refine lN aP T2.st (fun hh SS=>arB SS (M2.vl (by simp)) hk qJ (by rw[hA];exact Qm)) (by simp) (by simp) hP hO hN.symm (by rw[hO];rfl) ?_;rintro v3 h3 n3 d3 C3' C3 N3 hC3 hv3 rd wr hm;have tK:=hm _ (T2.st.lt E8) (T2.st.off E8 qi);rw[Jw] at tK;have EW:=hm _ (T2.st.lt HK) (T2.st.off HK qi);rw[Vq] at EW;have Jv:=hm _ (T2.st.lt qm2) (T2.st.off qm2 qi);have CB:=N3.dd qM qi;rw[←CB] at Jv;have CD:=asb;rw[←CB] at CD;clear hm CB;have T3:=T2.own N3 qi qi;have E9:=(N3.cc (147,0) qi).trans E8;have Jx:=(N3.dd (147,0) qi).trans Jw;have aaw:=(N3.dd (70,0) qi).trans agP;have Vr:=(N3.dd qB qi).trans Vq;clear Xw agQ agR ar';obtain⟨aGR,aGS,X3,xk3,R3,rk3,M3,B3,Pk3,I3,aGT⟩:=T3.pg;obtain⟨pv3,vv3,qb3⟩:=T3.rf.base;obtain⟨⟨wc3,qm3⟩,qw3,ql3,-⟩:=T3.rf.mem;have ase:=B3.base;have Xx:=T3.st.at E9;rw[Jx] at Xx;have agU:=T3.st.at ase;rw[aaw] at agU;have agV:=T3.st.at qb3;rw[Vr] at agV;have agW:=T3.st.at qm3;have agX:=T3.st.lt E9;rw[Jx] at agX;have asf:=T3.st.lt qb3;rw[Vr] at asf;have asg:=T3.st.lt qm3;obtain⟨⟨m1,m2⟩,m3,m4⟩:=tK;obtain⟨⟨m5,m6⟩,m7,m8⟩:=EW;obtain⟨⟨m9,m10⟩,m11,m12⟩:=Jv;have hAl:s.k=A.length:=by have:=M3.len;rw[hA,EZ] at this;omega
 obtain⟨la,lc,hlv⟩:∃ a c,wB (d3 qL) s.k = .slice a s.k c:=by
  unfold wB;split
  ·rename_i q;exact⟨none,0,by rw[q]⟩
  ·exact⟨_,_,rfl⟩
 obtain⟨va,vc,rfl⟩:∃ a c,v3 = .slice a s.k c:=by
  rcases hv3 with ⟨q,q2⟩ | ⟨-,q,-⟩
  ·exact⟨none,0,by rw[q,q2]⟩
  ·exact⟨_,_,q⟩
 have ea:cE prog OB 94 [.slice va s.k vc,.slice la s.k lc] h3 n3 fun v h' n'=>v = .bool true∧h'=h3∧n'=n3:=by
  rcases hv3 with ⟨q,q2⟩ | ⟨q0,q,q3⟩
  ·rw[←hlv,q,q2,show wB (d3 qL) 0 = .slice none 0 0 from if_pos rfl];exact Qn
  ·rw[←hlv,q,show wB (d3 qL) s.k = .slice (some ⟨d3 qL,0,none⟩) s.k (aA+6) from if_neg qJ];have e1:=(hC3 (141,0) (by simp)).trans q3;have e2:C3 qL=row s.L:=by
    rcases ql3 with ⟨c,-⟩ | ⟨-,c⟩
    ·omega
    ·exact c
   rw[hA] at e1 e2;exact aal hAl hk (T3.st.at e1) (T3.st.at e2)
 rw[hlv] at agW;clear hv3 hC3 hAl
 repeat' first|simp(disch:=try exact yj) only[go_sem, *,List.append_eq,List.cons_append,List.nil_append] | (apply xs<;>intro _)<;>try omega
 refine jg (ea) ?_;rintro y hx nx ⟨rfl,ex,en⟩;obtain rfl:=ex.symm;obtain rfl:=en.symm;intro Sc Se;clear ea
 repeat' first|simp(disch:=try exact yj) only[go_sem, *,List.append_eq,List.cons_append,List.nil_append] | (apply xs<;>intro _)<;>try omega
 refine lN aP (X:=[]) (Y:=[]) (Q:=fun v _ _=>v = .slice none 0 0) T3.st (fun hh SS=>by have q:=Vb SS T3.pg.vl;rw[aaw] at q;exact q) (by simp) (by simp) hP hO hN.symm (by rw[hO];rfl) ?_;rintro v4 h4 n4 d4 C4' C4 N4 hC4 hv4 rd wr hm;have tK:=hm _ (T3.st.lt E9) (T3.st.off E9 qi);rw[Jx] at tK;have EW:=hm _ (T3.st.lt qb3) (T3.st.off qb3 qi);rw[Vr] at EW;have Jv:=hm _ (T3.st.lt qm3) (T3.st.off qm3 qi);have CB:=N4.dd qM qi;rw[←CB] at Jv;have CD:=asg;rw[←CB] at CD;clear hm CB;have T4:=T3.own N4 qi qi;have E_:=(N4.cc (147,0) qi).trans E9;have Jy:=(N4.dd (147,0) qi).trans Jx;have aax:=(N4.dd (70,0) qi).trans aaw;have Vs:=(N4.dd qB qi).trans Vr;clear Xx agU agV agW;obtain⟨aGW,aGX,X4,xk4,R4,rk4,M4,B4,Pk4,I4,aGY⟩:=T4.pg;obtain⟨pv4,vv4,qb4⟩:=T4.rf.base;obtain⟨⟨wc4,qm4⟩,qw4,ql4,-⟩:=T4.rf.mem;have ash:=B4.base;have Xy:=T4.st.at E_;rw[Jy] at Xy;have agY:=T4.st.at ash;rw[aax] at agY;have agZ:=T4.st.at qb4;rw[Vs] at agZ;have asi:=T4.st.at qm4;have ag1:=T4.st.lt E_;rw[Jy] at ag1;have asj:=T4.st.lt qb4;rw[Vs] at asj;have asl:=T4.st.lt qm4;obtain⟨⟨m1,m2⟩,m3,m4⟩:=tK;obtain⟨⟨m5,m6⟩,m7,m8⟩:=EW;obtain⟨⟨m9,m10⟩,m11,m12⟩:=Jv;subst hv4
 repeat' first|simp(disch:=try exact yj) only[go_sem, *,List.append_eq,List.cons_append,List.nil_append] | (apply xs<;>intro _)<;>try omega
 refine jg (Vc (h:=h4) (n:=n4)) ?_;rintro y hx nx ⟨rfl,ex,en⟩;obtain rfl:=ex.symm;obtain rfl:=en.symm;intro Sc Se
 repeat' first|simp(disch:=try exact yj) only[go_sem, *,List.append_eq,List.cons_append,List.nil_append] | (apply xs<;>intro _)<;>try omega
 refine lN aP T4.st (fun hh SS=>by have q:=Va SS T4.pg.vl IZ (p:=142) qi;rw[aax] at q;exact q) (by simp) (by simp) hP hO hN.symm (by rw[hO];rfl) ?_;rintro v5 h5 n5 d5 C5' C5 N5 hC5 hv5 rd wr hm;have tK:=hm _ (T4.st.lt E_) (T4.st.off E_ qi);rw[Jy] at tK;have EW:=hm _ (T4.st.lt qb4) (T4.st.off qb4 qi);rw[Vs] at EW;have Jv:=hm _ (T4.st.lt qm4) (T4.st.off qm4 qi);have CB:=N5.dd qM qi;rw[←CB] at Jv;have CD:=asl;rw[←CB] at CD;clear hm CB;have T5:=T4.own N5 qi qi;have QE:=(N5.cc (147,0) qi).trans E_;have QF:=(N5.dd (147,0) qi).trans Jy;have HP:=(N5.dd (70,0) qi).trans aax;have Fa:=(N5.dd qB qi).trans Vs;clear Xy agY agZ asi;obtain⟨aGZ,aG0,X5,xk5,R5,rk5,M5,B5,Pk5,I5,aG1⟩:=T5.pg;obtain⟨pv5,vv5,qb5⟩:=T5.rf.base;obtain⟨⟨wc5,qm5⟩,qw5,ql5,-⟩:=T5.rf.mem;have asn:=B5.base;have Xz:=T5.st.at QE;rw[QF] at Xz;have ag2:=T5.st.at asn;rw[HP] at ag2;have ag6:=T5.st.at qb5;rw[Fa] at ag6;have aso:=T5.st.at qm5;have ag7:=T5.st.lt QE;rw[QF] at ag7;have asq:=T5.st.lt qb5;rw[Fa] at asq;have aG2:=T5.st.lt qm5;obtain⟨⟨m1,m2⟩,m3,m4⟩:=tK;obtain⟨⟨m5,m6⟩,m7,m8⟩:=EW;obtain⟨⟨m9,m10⟩,m11,m12⟩:=Jv;have ho5:rK .i64 v5 (mP (fun k=>decide (k=2)) s.K E.l.H.length) d5 C5 (142,0):=by
  rcases hv5 with q | ⟨c,q1,q2⟩
  ·exact .inl q
  ·exact .inr ⟨c,q1,(hC5 (142,0) (by simp)).trans q2⟩
 obtain⟨va5,vc5,rfl,-⟩:=(ho5.cR T5.st).len;clear hv5 hC5;have rl:=Qo T5.st T5.rf hKv qJ (p:=144) qi;rw[Fa,show s.K.length-1=E.l.H.length by omega] at rl
 repeat' first|simp(disch:=try exact yj) only[go_sem, *,List.append_eq,List.cons_append,List.nil_append] | (apply xs<;>intro _)<;>try omega
 refine jg (rl) ?_;rintro v6 h6 n6 ⟨d6,C6,N6,hv6⟩;intro Sc Se;clear rl;have T6:=T5.own N6 qi qi;have Fb:=(N6.cc (147,0) qi).trans QE;have Jz:=(N6.dd (147,0) qi).trans QF;have Fc:=(N6.dd (70,0) qi).trans HP;have zc:=(N6.dd qB qi).trans Fa;clear Xz ag2 ag6 aso;obtain⟨aG3,aG4,X6,xk6,R6,rk6,M6,B6,Pk6,I6,aG5⟩:=T6.pg;obtain⟨pv6,vv6,qb6⟩:=T6.rf.base;obtain⟨⟨wc6,qm6⟩,qw6,ql6,-⟩:=T6.rf.mem;have ast:=B6.base;have XA:=T6.st.at Fb;rw[Jz] at XA;have ag8:=T6.st.at ast;rw[Fc] at ag8;have ag9:=T6.st.at qb6;rw[zc] at ag9;have asu:=T6.st.at qm6;have ag_:=T6.st.lt Fb;rw[Jz] at ag_;have asv:=T6.st.lt qb6;rw[zc] at asv;have asw:=T6.st.lt qm6;have i1:=rK.cR (d:=d6) (C:=C6) T6.st (by
  rcases ho5 with q | ⟨c,q1,q2⟩
  ·exact .inl q
  ·exact .inr ⟨c,by rw[N6.dd (142,0) qi];exact q1,(N6.cc (142,0) qi).trans q2⟩)
 have i2:=hv6.cR T6.st;obtain⟨va6,vc6,rfl,-⟩:=i2.len;have hle:=@tE (fun k=>decide (k=2)) s.K E.l.H.length;have ee:=qt (O:=OB) _ _ _ _ h6 n6 i1 i2 qJ qJ;rw[decide_eq_true rfl] at ee;generalize mP (fun k=>decide (k=2)) s.K E.l.H.length=xs5 at*;clear i1 i2 ho5 hv6
 repeat' first|simp(disch:=try exact yj) only[go_sem, *,List.append_eq,List.cons_append,List.nil_append] | (apply xs<;>intro _)<;>try omega
 refine jg (ee) ?_;rintro y hx nx ⟨rfl,ex,en⟩;obtain rfl:=ex.symm;obtain rfl:=en.symm;intro Sc Se;clear ee
 repeat' first|simp(disch:=try exact yj) only[go_sem, *,List.append_eq,List.cons_append,List.nil_append] | (apply xs<;>intro _)<;>try omega
 refine lN aP T6.st (fun hh SS=>by have q:=Qp SS T6.pg.vl IZ (p:=143) qi;rw[Fc] at q;exact q) (by simp) (by simp) hP hO hN.symm (by rw[hO];rfl) ?_;rintro v7 h7 n7 d7 C7' C7 N7 hC7 hv7 rd wr hm;have tK:=hm _ (T6.st.lt Fb) (T6.st.off Fb qi);rw[Jz] at tK;have EW:=hm _ (T6.st.lt qb6) (T6.st.off qb6 qi);rw[zc] at EW;have Jv:=hm _ (T6.st.lt qm6) (T6.st.off qm6 qi);have CB:=N7.dd qM qi;rw[←CB] at Jv;have CD:=asw;rw[←CB] at CD;clear hm CB;have T7:=T6.own N7 qi qi;have QG:=(N7.cc (147,0) qi).trans Fb;have QH:=(N7.dd (147,0) qi).trans Jz;have HQ:=(N7.dd (70,0) qi).trans Fc;have CF:=(N7.dd qB qi).trans zc;clear XA ag8 ag9 asu;obtain⟨aG6,aG7,X7,xk7,R7,rk7,M7,B7,Pk7,I7,aG8⟩:=T7.pg;obtain⟨pv7,vv7,qb7⟩:=T7.rf.base;obtain⟨⟨wc7,qm7⟩,qw7,ql7,-⟩:=T7.rf.mem;have asx:=B7.base;have XB:=T7.st.at QG;rw[QH] at XB;have ag':=T7.st.at asx;rw[HQ] at ag';have aha:=T7.st.at qb7;rw[CF] at aha;have asy:=T7.st.at qm7;have ahb:=T7.st.lt QG;rw[QH] at ahb;have asz:=T7.st.lt qb7;rw[CF] at asz;have aG9:=T7.st.lt qm7;obtain⟨⟨m1,m2⟩,m3,m4⟩:=tK;obtain⟨⟨m5,m6⟩,m7,m8⟩:=EW;obtain⟨⟨m9,m10⟩,m11,m12⟩:=Jv;have ho7:rK .i64 v7 (mP (fun k=>decide (k=3)) s.K E.l.H.length) d7 C7 (143,0):=by
  rcases hv7 with q | ⟨c,q1,q2⟩
  ·exact .inl q
  ·exact .inr ⟨c,q1,(hC7 (143,0) (by simp)).trans q2⟩
 obtain⟨va7,vc7,rfl,-⟩:=(ho7.cR T7.st).len;clear hv7 hC7;have rl:=Lx T7.st T7.rf hKv qJ (p:=145) qi;rw[CF,show s.K.length-1=E.l.H.length by omega] at rl
 repeat' first|simp(disch:=try exact yj) only[go_sem, *,List.append_eq,List.cons_append,List.nil_append] | (apply xs<;>intro _)<;>try omega
 refine jg (rl) ?_;rintro v8 h8 n8 ⟨d8,C8,N8,hv8⟩;intro Sc Se;clear rl;have T8:=T7.own N8 qi qi;have Fe:=(N8.cc (147,0) qi).trans QG;have Ff:=(N8.dd (147,0) qi).trans QH;have asB:=(N8.dd (70,0) qi).trans HQ;have QI:=(N8.dd qB qi).trans CF;clear XB ag' aha asy;obtain⟨aG_,aG',X8,xk8,R8,rk8,M8,B8,Pk8,I8,aHa⟩:=T8.pg;obtain⟨pv8,vv8,qb8⟩:=T8.rf.base;obtain⟨⟨wc8,qm8⟩,qw8,ql8,-⟩:=T8.rf.mem;have asC:=B8.base;have XC:=T8.st.at Fe;rw[Ff] at XC;have ahd:=T8.st.at asC;rw[asB] at ahd;have ahe:=T8.st.at qb8;rw[QI] at ahe;have asD:=T8.st.at qm8;have ahf:=T8.st.lt Fe;rw[Ff] at ahf;have asE:=T8.st.lt qb8;rw[QI] at asE;have aHb:=T8.st.lt qm8;have i1:=rK.cR (d:=d8) (C:=C8) T8.st (by
  rcases ho7 with q | ⟨c,q1,q2⟩
  ·exact .inl q
  ·exact .inr ⟨c,by rw[N8.dd (143,0) qi];exact q1,(N8.cc (143,0) qi).trans q2⟩)
 have i2:=hv8.cR T8.st;obtain⟨va8,vc8,rfl,-⟩:=i2.len;have hle:=@tE (fun k=>decide (k=3)) s.K E.l.H.length;have ee:=qt (O:=OB) _ _ _ _ h8 n8 i1 i2 qJ qJ;rw[decide_eq_true rfl] at ee;generalize mP (fun k=>decide (k=3)) s.K E.l.H.length=xs7 at*;clear i1 i2 ho7 hv8
 repeat' first|simp(disch:=try exact yj) only[go_sem, *,List.append_eq,List.cons_append,List.nil_append] | (apply xs<;>intro _)<;>try omega
 refine jg (ee) ?_;rintro y hx nx ⟨rfl,ex,en⟩;obtain rfl:=ex.symm;obtain rfl:=en.symm;intro Sc Se;clear ee
 repeat' first|simp(disch:=try exact yj) only[go_sem, *,List.append_eq,List.cons_append,List.nil_append] | (apply xs<;>intro _)<;>try omega
 have g75:=T8.st.at B8.pool;have g77:=T8.st.at B8.out;have n75:=T8.st.lt B8.pool;have n77:=T8.st.lt B8.out;have z1:=T8.st.df B8.pool Fe qi;rw[Ff] at z1;have z2:=T8.st.df B8.out Fe qi;rw[Ff] at z2;have z3:=T8.st.df B8.pool qb8 qi;rw[QI] at z3;have z4:=T8.st.df B8.out qb8 qi;rw[QI] at z4;have hX:=gO (X:=X8);have oe:=I8.Qf;have hle:=@tE (fun k=>decide (k≠0)) s.K E.l.H.length
 repeat' first|simp(disch:=try exact yj) only[go_sem, *,yO,BN,List.append_eq,List.cons_append,List.nil_append] | (apply xs<;>intro _)<;>try omega
 rw[Vo g75 g77 I8.ox];by_cases Us:X8.length=0
 ·rw[if_pos Us];have oK:cO X8=[]:=List.length_eq_zero_iff.1 qJ;have rl:=Xn T8.st T8.rf qJ (p:=146) qi;rw[show s.K.length-1=E.l.H.length by omega,←oe,oK] at rl;clear oe hX oK
  repeat' first|simp(disch:=try exact yj) only[go_sem, *,List.append_eq,List.cons_append,List.nil_append] | (apply xs<;>intro _)<;>try omega
  refine jg (rl) ?_;rintro v9 h9 n9 ⟨d9,C9,N9,hv9⟩;intro Sc Se;clear rl;have T9:=T8.own N9 qi qi;have i2:=hv9.cR T9.st;have ee:cE prog OB 55 [.slice none 0 0,v9] h9 n9 fun v h' n'=>v = .bool true∧h'=h9∧n'=n9:=(qt (O:=OB) [] [] _ _ h9 n9 (.inl ⟨rfl,rfl⟩) i2 (by simp) (by simp)).mono (by rintro v h' n' ⟨rfl,e1,e2⟩;exact⟨by rw[decide_eq_true rfl],e1,e2⟩);obtain⟨va9,vc9,rfl,-⟩:=i2.len;clear i2 hv9
  repeat' first|simp(disch:=try exact yj) only[go_sem, *,List.append_eq,List.cons_append,List.nil_append] | (apply xs<;>intro _)<;>try omega
  refine jg (ee) ?_;rintro y hx nx ⟨rfl,ex,en⟩;obtain rfl:=ex.symm;obtain rfl:=en.symm;intro Sc Se;clear ee
  repeat' first|simp(disch:=try exact yj) only[go_sem, *,List.append_eq,List.cons_append,List.nil_append] | (apply xs<;>intro _)<;>try omega
 ·rw[if_neg Us];have S8':=T8.st.new (148,0) (.cells (PT.ofList .leaf 0 ((cO X8).map (.int .i64))) false) (Nat.le_refl n8) (Nat.lt_succ_self n8);have N8':=Nz.new (X:=[(148,0)]) (Y:=[(148,0)]) (t:=148) (b:=0) qi (Nat.le_refl _) (Nat.le_succ _) S8';have T8':=T8.own N8' qi qi;have rl:=Xn T8'.st T8'.rf qJ (p:=146) qi;rw[show s.K.length-1=E.l.H.length by omega,au qi] at rl;have asF:=T8'.st.at ((au qi).trans Fe);rw[(au qi).trans Ff] at asF;have Lu:=T8'.st.at ((au qi).trans qb8);rw[(au qi).trans QI] at Lu;generalize h8.set n8 _=h8' at*;clear XC ahd ahe asD g75 g77
  repeat' first|simp(disch:=try exact yj) only[go_sem, *,List.append_eq,List.cons_append,List.nil_append] | (apply xs<;>intro _)<;>try omega
  refine jg (rl) ?_;rintro v9 h9 n9 ⟨d9,C9,N9,hv9⟩;intro Sc Se;clear rl;have T9:=T8'.own N9 qi qi;have i2:=hv9.cR T9.st;have i1:aN .i64 h9 (.slice (some ⟨n8,0,none⟩) X8.length (aA+1)) (cO X8):=pJ.cR (N:=0) (.inr ⟨_,_,by rw[hX],Nat.zero_le _,by
   have e:=T9.st.at ((N9.cc (148,0) qi).trans aq)
   rwa [N9.dd (148,0) qi,aq] at e⟩)
  rw[←oe] at i2;have hol:(cO X8).length<1000000:=by rw[oe];omega
  have ee:cE prog OB 55 [.slice (some ⟨n8,0,none⟩) X8.length (aA+1),v9] h9 n9 fun v h' n'=>v = .bool true∧h'=h9∧n'=n9:=(qt (O:=OB) (cO X8) (cO X8) _ _ h9 n9 i1 i2 hol hol).mono (by rintro v h' n' ⟨rfl,e1,e2⟩;exact⟨by rw[decide_eq_true rfl],e1,e2⟩);obtain⟨va9,vc9,rfl,-⟩:=i2.len;clear i1 i2 hv9 oe hX hol hle
  repeat' first|simp(disch:=try exact yj) only[go_sem, *,List.append_eq,List.cons_append,List.nil_append] | (apply xs<;>intro _)<;>try omega
  refine jg (ee) ?_;rintro y hx nx ⟨rfl,ex,en⟩;obtain rfl:=ex.symm;obtain rfl:=en.symm;intro Sc Se;clear ee
  repeat' first|simp(disch:=try exact yj) only[go_sem, *,List.append_eq,List.cons_append,List.nil_append] | (apply xs<;>intro _)<;>try omega
end
end Go.Proofs.YtofmbmclopgldaaGreat
namespace Go.Proofs.YtofmbmclopgldaaGreat
open Go.Am Go.Proofs.Tryz
def zv(ws:List Int)(x:Int):List Int:=if ws.length<4∧0<x∧(ws.length=0∨ws.getD (ws.length-1) 0<x) then ws++[x] else ws
@[go_sem] theorem Vt{w:Bool}:xF (some dY) w=false:=rfl
abbrev xD:List Rl:=[(130,0),(131,0),(132,0)]
section
variable {d:Rl→Nat} {C:Rl→Option aj} {h h1:PT aj} {n n1:Nat}
theorem asH(S:St h n d C)(F:Fz h1 n1 d C)(hn:n1≤n){kd dn:Int}{s:Value}{xs:List Int}(hs:aN .u64 h1 s xs)(hl:xs.length<1000000000000000)(vC:0≤kd∧kd<256):
  cE prog OB 73 [.agg ⟨[U8 kd,I6 dn,s]⟩] h n fun v h' n'=>∃ d' C',Nz n d C xD xD d' C' h' n'∧(v = .agg ⟨[U8 1,I6 0,.slice none 0 0]⟩∨v = .agg ⟨[U8 2,I6 (1+bh dn 5),.slice none 0 0]⟩∨∃ ws:List Int,ws≠[]∧ws=xs.foldl zv []∧v = .agg ⟨[U8 3,I6 0,mkV (d' (132,0)) ws]⟩∧C' (132,0)=row (ws.map (.int .u64))):=by
 obtain⟨a,c,rfl,hX⟩:=hs.len;obtain⟨k1,k2⟩:=vC;have hm1:=Int.tmod_nonneg (3:Int) k1;have hm2:=Int.tmod_lt_of_pos kd (show (0:Int)<3 by decide);obtain⟨r1,r2⟩:=@cZ dn 5;refine ay (N:=63) func73 rfl rfl fun z hP hO hro hN hQ=>?_;by_cases c0:kd.tmod 3=0
 ·repeat' first|simp(disch:=try exact yj) only[go_sem, *] | (apply xs<;>intro _)<;>try omega
  exact⟨_,_,Nz.new (t:=131) (b:=0) qi qJ qJ (((S.junk (Nat.le_refl _) (Nat.lt_succ_self _)).new (131,0) _ (Nat.le_refl _) (Nat.lt_succ_self _)).re aq)⟩
 ·by_cases c1:kd.tmod 3=1
  ·repeat' first|simp(disch:=try exact yj) only[go_sem, *,jT] | (apply xs<;>intro _)<;>try omega
   exact⟨_,_,Nz.new (t:=131) (b:=0) qi qJ qJ (((S.junk (Nat.le_refl _) (Nat.lt_succ_self _)).new (131,0) _ (Nat.le_refl _) (Nat.lt_succ_self _)).re aq)⟩
  ·repeat' first|simp(disch:=try exact yj) only[go_sem, *] | (apply xs<;>intro _)<;>try omega
   obtain⟨d1,C1,N1,asI,asJ,asK,asL⟩:∃ d1 C1,Nz n d C xD xD d1 C1 ((h.set n (some (.cells (PT.ofList .leaf 0 [U8 kd,I6 dn,.slice a xs.length c]) false))).set (n+1) (some (.cells (PT.ofList .leaf 0 [.int .u8 0,.int .i64 0,.slice none 0 0]) false))) (n+1+1)∧d1 (130,0)=n∧d1 (131,0)=n+1∧C1 (130,0)=row [U8 kd,I6 dn,.slice a xs.length c]∧C1 (131,0)=row [.int .u8 0,.int .i64 0,.slice none 0 0]:=
    ⟨_,_,(Nz.new (t:=130) (b:=0) qi (Nat.le_refl _) (Nat.le_succ _) (S.new (130,0) _ (Nat.le_refl _) (Nat.lt_succ_self _))).trans (Nz.new (t:=131) (b:=0) qi (Nat.le_refl _) (Nat.le_succ _) ((S.new (130,0) _ (Nat.le_refl _) (Nat.lt_succ_self _)).new (131,0) _ (Nat.le_refl _) (Nat.lt_succ_self _))),(au qi).trans aq,aq,(au qi).trans aq,aq⟩
   refine a_ (fun t m h' n'=>∃ (i:Nat) (ws:List Int) (d':Rl→Nat) (C':Rl→Option aj),i≤xs.length∧t=xs.length-i∧Hid (ws=(xs.take i).foldl zv [])∧ws.length≤4∧m.n=63∧m.fF=[]∧m.get 1=pt n∧m.get 2=pt (n+1)∧m.get 3=mkV (d' (132,0)) ws∧m.get 4=I6 i∧Nz n d C xD xD d' C' h' n'∧d' (130,0)=n∧d' (131,0)=n+1∧C' (130,0)=row [U8 kd,I6 dn,.slice a xs.length c]∧C' (131,0)=row [.int .u8 0,.int .i64 0,.slice none 0 0]∧(0<ws.length→C' (132,0)=row (ws.map (.int .u64)))) xs.length ?_ ?_
   ·refine⟨0,[],d1,C1,by omega,by omega,⟨rfl⟩,by simp,?_⟩;clear hX;simp(disch:=try exact yj) only[go_sem, *];exact⟨rfl,fun q=>q.elim⟩
   ·clear N1 asI asJ asK asL;rintro t m h' n' ih ⟨i,ws,d',C',hi,rfl,hw,hw4,p1,p2,p3,p4,p5,p6,N,e1,e2,b1,b2,b3⟩;have g1:=N.st.at b1;have g2:=N.st.at b2;rw[e1] at g1;rw[e2] at g2;by_cases hlt:i<xs.length∧ws.length<4
    ·obtain⟨hlt,hw5⟩:=hlt;obtain⟨b,off,sp,L,ro,rfl,hgb,u_⟩:=hX i hlt;have kb:=((N.fz _ _ hn F).kept N.st) _ _ hgb;have hs1:(xs.take (i+1)).foldl zv []=zv ws (xs.getD i 0):=by
      rw[List.take_succ_eq_append_getElem hlt,List.foldl_append,←hw.h];simp[List.getD,hlt]
     have e7:(i:Int)<xs.length:=by omega
     have tM:Hid ((xs.take (i+1)).foldl zv []=zv ws (xs.getD i 0)):=⟨hs1⟩;clear hs1 hX;generalize xs.getD i 0=y at*;by_cases c2:ws.length=0
     ·obtain rfl:ws=[]:=List.length_eq_zero_iff.1 c2;rw[tH] at p5;by_cases c3:0<y
      ·have hct:zv [] y=[y]:=if_pos ⟨by simp,c3,.inl rfl⟩;rw[hct] at tM;clear hct
       repeat' first|simp(disch:=try exact yj) only[go_sem, *] | (apply xs<;>intro _)<;>try omega
       refine ih (xs.length-(i+1)) _ _ _ qJ ⟨i+1,[y],upd d' (132,0) (n'+1),upd C' (132,0) (row [U6 y]),by omega,rfl,⟨tM.h.symm⟩,by simp,?_⟩;clear ih;simp(disch:=try exact yj) only[go_sem, *];exact⟨by rw[aq];rfl,rfl,N.trans (Nz.new (t:=132) (b:=0) qi qJ qJ ((N.st.junk (Nat.le_refl _) (Nat.lt_succ_self _)).new (132,0) _ (Nat.le_refl _) (Nat.lt_succ_self _))),(au qi).trans e1,(au qi).trans e2,(au qi).trans b1,(au qi).trans b2,fun _=>aq⟩
      ·have hct:zv [] y=[]:=if_neg fun q=>c3 q.2.1;rw[hct] at tM;clear hct
       repeat' first|simp(disch:=try exact yj) only[go_sem, *] | (apply xs<;>intro _)<;>try omega
       refine ih (xs.length-(i+1)) _ _ _ qJ ⟨i+1,[],d',C',by omega,rfl,⟨tM.h.symm⟩,by simp,?_⟩;clear ih;simp(disch:=try exact yj) only[go_sem, *];exact⟨rfl,rfl,fun q=>q.elim⟩
     ·have hpos:0<ws.length:=by omega
      have b4:=b3 hpos;have g3:=N.st.at b4;have n3:=N.st.lt b4;have d31:=N.st.df b4 b1 qi;have d32:=N.st.df b4 b2 qi;rw[e1] at d31;rw[e2] at d32;rw[fS hpos] at p5;have e8:(ws.length:Int)<4:=by omega
      have e9: ¬ (ws.length:Int)=0:=by omega
      have PA:(ws.map (Value.int .u64))[ws.length-1]? = some (U6 (ws.getD (ws.length-1) 0)):=by rw[List.getElem?_map,List.getElem?_eq_getElem qJ];simp[List.getD,show ws.length-1<ws.length by omega]
      have hwi:((ws.length:Int)-1)=((ws.length-1:Nat):Int):=by omega
      have hml:(ws.map (Value.int .u64)).length=ws.length:=List.length_map _;have hsn:∀ g,mkV g (ws++[y]) = .slice (some ⟨g,0,none⟩) (ws.length+1) (aA+1):=fun g=>tI;have w9:zv ws y=if 0<y∧ws.getD (ws.length-1) 0<y then ws++[y] else ws:=by
       unfold zv;by_cases q:0<y∧ws.getD (ws.length-1) 0<y
       ·rw[if_pos q,if_pos ⟨hw5,q.1,.inr q.2⟩]
       ·rw[if_neg q,if_neg fun z=>q ⟨z.2.1,z.2.2.resolve_left c2⟩]
      generalize ws.getD (ws.length-1) 0=la at*;by_cases c3:0<y
      ·by_cases c4:la<y
       ·rw[w9,if_pos ⟨c3,c4⟩] at tM;clear w9
        repeat' first|simp(disch:=try exact yj) only[go_sem, *] | (apply xs<;>intro _)<;>try omega
        refine ih (xs.length-(i+1)) _ _ _ qJ ⟨i+1,ws++[y],upd d' (132,0) (n'+1),upd C' (132,0) (row (ws.map (.int .u64)++[U6 y])),by omega,rfl,⟨tM.h.symm⟩,by simp;omega,?_⟩;clear ih;simp(disch:=try exact yj) only[go_sem, *];exact⟨by rw[aq],rfl,N.trans (Nz.new (t:=132) (b:=0) qi qJ qJ ((((N.st.junk (Nat.le_refl _) (Nat.lt_succ_self _)).kill (132,0) b4 rfl).new (132,0) _ (Nat.le_refl _) (Nat.lt_succ_self _)).eq (by rw[gn]) rfl)),(au qi).trans e1,(au qi).trans e2,(au qi).trans b1,(au qi).trans b2,fun _=>by rw[List.map_append];exact aq⟩
       ·rw[w9,if_neg fun q=>c4 q.2] at tM;clear w9
        repeat' first|simp(disch:=try exact yj) only[go_sem, *] | (apply xs<;>intro _)<;>try omega
        refine ih (xs.length-(i+1)) _ _ _ qJ ⟨i+1,ws,d',C',by omega,rfl,⟨tM.h.symm⟩,hw4,?_⟩;clear ih;simp(disch:=try exact yj) only[go_sem, *];refine⟨(fS hpos).symm,?_⟩;first|rfl|exact b4|exact⟨rfl,b3⟩ |exact⟨rfl,fun q=>q⟩
      ·rw[w9,if_neg fun q=>c3 q.1] at tM;clear w9
       repeat' first|simp(disch:=try exact yj) only[go_sem, *] | (apply xs<;>intro _)<;>try omega
       refine ih (xs.length-(i+1)) _ _ _ qJ ⟨i+1,ws,d',C',by omega,rfl,⟨tM.h.symm⟩,hw4,?_⟩;clear ih;simp(disch:=try exact yj) only[go_sem, *];refine⟨(fS hpos).symm,?_⟩;first|rfl|exact b4|exact⟨rfl,b3⟩ |exact⟨rfl,fun q=>q⟩
    ·have XD:ws=xs.foldl zv []:=by
      by_cases q:i<xs.length
      ·have h4:ws.length=4:=by omega
       have hid:∀ l:List Int,l.foldl zv ws=ws:=fun l=>by
        induction l with
        |nil=>rfl
        |cons z l ih=>rw[List.foldl_cons,show zv ws z=ws from if_neg fun q=>absurd q.1 qJ];exact ih
       have:=hid (xs.drop i);rw[hw.h,←List.foldl_append,List.take_append_drop] at this;rw[hw.h];exact this.symm
      ·rw[hw.h,List.take_of_length_le qJ]
     have WV:Hid (ws=xs.foldl zv []):=⟨XD⟩;clear ih XD hw hX;by_cases c2:ws.length=0
     ·obtain rfl:ws=[]:=List.length_eq_zero_iff.1 c2;rw[tH] at p5;have e7: ¬ (i:Int)<xs.length:=fun q=>hlt ⟨by omega,by simp⟩
      repeat' first|simp(disch:=try exact yj) only[go_sem, *] | (apply xs<;>intro _)<;>try omega
      exact⟨d',_,N.trans (Nz.set (t:=131) (b:=0) qi b2 (N.st.set (131,0) _ b2 e2))⟩
     ·have hpos:0<ws.length:=by omega
      rw[fS hpos] at p5;have e9: ¬ (ws.length:Int)=0:=by omega
      by_cases q:i<xs.length
      ·have e7:(i:Int)<xs.length:=by omega
       have e8: ¬ (ws.length:Int)<4:=by omega
       repeat' first|simp(disch:=try exact yj) only[go_sem, *] | (apply xs<;>intro _)<;>try omega
       exact⟨d',_,N.trans (Nz.set (t:=131) (b:=0) qi b2 (N.st.set (131,0) _ b2 e2)),.inr (.inr ⟨ws,fun z=>c2 (by rw[z];rfl),WV.h,by rw[fS hpos],(au qi).trans (b3 hpos)⟩)⟩
      ·have e7: ¬ (i:Int)<xs.length:=by omega
       repeat' first|simp(disch:=try exact yj) only[go_sem, *] | (apply xs<;>intro _)<;>try omega
       exact⟨d',_,N.trans (Nz.set (t:=131) (b:=0) qi b2 (N.st.set (131,0) _ b2 e2)),.inr (.inr ⟨ws,fun z=>c2 (by rw[z];rfl),WV.h,by rw[fS hpos],(au qi).trans (b3 hpos)⟩)⟩
end
end Go.Proofs.YtofmbmclopgldaaGreat
