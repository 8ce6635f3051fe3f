/-
A part.
-/
import Derived.Test.YtofmbmclopgldaaGreatSS3
set_option linter.all false
set_option maxRecDepth 100000
set_option maxHeartbeats 16000000
namespace Go.Proofs.YtofmbmclopgldaaGreat
open Go.Am Go.Proofs.Tryz
abbrev kW(bq:Nat)(th v key:Int)(s:SS):List Value:=[pt bq,I6 th,I6 v,U6 key,I6 (if s.pc=0 then -1 else s.lv),I6 s.nd,I6 s.c,U8 s.pc]++(s.bf.map (.int .i64)++(s.af.map (.int .i64)++[I6 s.fo]))
theorem A0{a0 a1 a2 a3 a4 u v x:Value}{r:List Value}{i j:Nat}:((((a0::a1::a2::a3::a4::r).set i u).set j v).set 4 x)[4]? = some x:=List.getElem?_set_self (by simp)
theorem A4{a0 a1 a2 a3 a4 a5 a6 a7 u v w x:Value}{r:List Value}{i j k:Nat}:(((((a0::a1::a2::a3::a4::a5::a6::a7::r).set i u).set j v).set k w).set 7 x)[7]? = some x:=List.getElem?_set_self (by simp)
theorem QO{r:Rl}(h:r∈mB):r.1<200:=by
 simp only[List.mem_cons,List.not_mem_nil,or_false] at h
 rcases h with rfl|rfl|rfl<;>decide
theorem ahl{r:Rl}{i:Nat}(h:200≤r.1∧r.1≤9000)(e:r=(9998,i)):False:=by subst e;simp at h
section
variable {E:Ev} {a b:Sd} {d:Rl→Nat} {C:Rl→Option aj} {h:PT aj} {n:Nat}
theorem aaB(T:Tw E a b d C h n)(hk:b.k≤80000){r:Rl}(hr:200≤r.1∧r.1≤9000){th v key:Int}{s:SS}(hs:rN E s)(hth:0≤th∧th<64)(hkey:0≤key∧key<18446744073709551616)(c:C r=row (kW (d qB) th v key s)):
  cE prog OB 34 [pt (d r)] h n fun y h' n'=>y=iU [U8 s.pc,.bool (decide (s.pc≠0∧(s.step E key (vm b.W (s.ad E))).pc=0))]∧∃ d' C',Nz n d C (r::mB) [(103,0)] d' C' h' n'∧C' r=row (kW (d qB) th v key (s.step E key (vm b.W (s.ad E))))∧
   Tw E a (if s.pc=0 then b else b.ld th (s.ad E)) d' C' h' n':=by
 obtain⟨pv,vv,qb⟩:=T.rf.base;have Lu:=T.st.at qb;have gr:=T.st.at c;have Kz:=T.fy.kept T.st;have FD:=Kz _ _ T.ok.nX;have dfq:=T.st.df c qb (fun q=>by subst q;simp at hr);obtain⟨pc,nd,lv,cn,bf,af,fo⟩:=s;obtain⟨h1,h2,h3,h4,h5,h6⟩:=hs;obtain⟨x0,x1,x2,x3,x4,x5,rfl⟩:=six h2;obtain⟨y0,y1,y2,y3,y4,y5,rfl⟩:=six h3;simp only at h1 h4 h5 h6;have dnl:d r≠E.jX:=fun q=>by
  have e:=(T.fy.cz E.jX).trans T.ok.nX;exact ahl hr (T.st.inj r (9998,E.jX) (by rw[c];simp) (by rw[e];simp) (q.trans (T.fy.dz _).symm))
 obtain⟨z0,z1,z2,z3,z7,z8,z9,z10,z11,z12,z13,z14,z15,wv,vH⟩:=T.ok.s2;obtain⟨q0,q1,q2,q3,q4,q5,q6,q7,q8,hPL⟩:=T.ok.num.PL;rw[hPL] at vH;simp only[List.map_cons,List.map_nil,List.cons_append,List.nil_append] at vH;rw[vH] at FD;obtain⟨ha,hc,FC,hel⟩:=T.ok.hts.len;rw[FC] at vH FD;have IZ:=T.ok.hlen;have hHw:IntKind.u64.wrap (E.l.H.length:Int)=E.l.H.length:=wrap_u64 qJ qJ
 rcases h4 with rfl|rfl|rfl
 ·simp only[kW,List.map_cons,List.map_nil,List.cons_append,List.nil_append] at gr
  first |rw[if_pos rfl] at gr |rw[if_pos trivial] at gr |skip
  refine ay (N:=161) func34 rfl rfl fun z hP hO hro hN hQ=>?_
  repeat' first|simp(disch:=try exact yj) only[go_sem, *] | (apply xs<;>intro _)<;>try omega | ((with_reducible refine b8 18 ?_);refine dw 161 18 aaU (by first | (simp only[go_sem, *];done)|rfl) (by kernel_rfl) (by kernel_rfl) ?_)|refine fun (_ _:List Nat)=>?_ | (first|refine bD func88 rfl ?_ ?_ ?_ ?_ |fail)<;>intros
  exact⟨d,C,Nz.refl T.st,c,T⟩
 ·simp only[kW,List.map_cons,List.map_nil,List.cons_append,List.nil_append] at gr;rw[if_neg qi] at gr;have hnd:=h5 qi;have en:=T.ok.num.nxt hnd;have hR:=(T.ok.num.naR hnd).2;have zq:sZ E.Wt nd lv=iU [I6 (na E.l nd lv),I6 0]:=by rw[←T.ok.nx nd lv (by obtain⟨-,q | ⟨q,-⟩⟩:=hnd;(have:=T.ok.num.V2;omega);(have:=q.1;omega)) (by obtain⟨-,q | ⟨q,-⟩⟩:=hnd;omega;(have:=q.2;have:=T.ok.hlen;omega))];unfold j5;rw[en.1,en.2]
  have zo:=gT Kz T.ok.vo;have hrl:=fun z f d ops r K m n=>@cw _ _ _ _ _ zo z f d ops r K m n (fun _ _ q=>q);have Co:=fun z L f d ops r K m n lo rd wr fs=>@eT _ _ _ _ _ zo z L f d ops r K m n lo rd wr fs (fun _ _ q=>q);have ld:=QD T qJ hth hR;have hwu:=tq T.ub (na E.l nd lv:Int);have ha:SS.ad E ⟨21,nd,lv,cn,[x0,x1,x2,x3,x4,x5],[y0,y1,y2,y3,y4,y5],fo⟩=na E.l nd lv:=if_pos rfl;have hst:∀ w,SS.step E ⟨21,nd,lv,cn,[x0,x1,x2,x3,x4,x5],[y0,y1,y2,y3,y4,y5],fo⟩ key w=SS.nx E ⟨21,nd,lv,cn,[x0,x1,x2,x3,x4,x5],[y0,y1,y2,y3,y4,y5],fo⟩ w:=fun w=>if_pos rfl;simp only[ha,hst];rw[if_neg (show ¬(21:Int)=0 by decide)];clear ha hst;generalize hna:na E.l nd lv=ad at*;generalize vm b.W ad=w at*;clear h5 h6 h2 h3 hPL;refine ay (N:=161) func34 rfl rfl fun z hP hO hro hN hQ=>?_
  repeat' first|simp(disch:=try exact yj) only[go_sem, *,dB,zq] | (apply xs<;>intro _)<;>try omega | ((with_reducible refine b8 4 ?_);refine dw 161 4 ags (by first | (simp only[go_sem, *];done)|rfl) (by kernel_rfl) (by kernel_rfl) ?_) | ((with_reducible refine b8 5 ?_);refine dw 161 5 agt (by first | (simp only[go_sem, *];done)|rfl) (by kernel_rfl) (by kernel_rfl) ?_)|refine fun (_ _:List Nat)=>?_ | (first|refine bD func88 rfl ?_ ?_ ?_ ?_ |fail)<;>intros
  refine jg (ld) ?_;rintro y h3 n3 ⟨d3,C3,rfl,N3,T3⟩;intro rd wr;have nr:r∉mB:=fun q=>by have:=QO q;omega
  have QM:r∉[((103:Nat),(0:Nat))]:=fun q=>by have:=List.mem_singleton.1 q;subst this;simp at hr
  have c3:=(N3.cc r nr).trans c;have e3:=N3.dd r QM;have g3:=T3.st.at c3;rw[e3] at g3;simp only[kW,List.map_cons,List.map_nil,List.cons_append,List.nil_append] at g3;rw[if_neg qi] at g3;have Lu:=T3.st.at ((N3.cc qB qi).trans qb);rw[N3.dd qB qi] at Lu;have Kz:=T3.fy.kept T3.st;have FD:=Kz _ _ T.ok.nX;rw[vH] at FD;have iK:Hid (∀ (s':SS) (h':PT aj),h'=h3.set (d r) (row (kW (d qB) th v key s'))→∃ d' C',Nz n d C (r::mB) [(103,0)] d' C' h' n3∧C' r=row (kW (d qB) th v key s')∧Tw E a (b.ld th ad) d' C' h' n3):=⟨fun s' h' e1=>by
   subst e1;have N4:Nz n3 d3 C3 [r] [] d3 (upd C3 r (row (kW (d qB) th v key s'))) (h3.set (d r) (row (kW (d qB) th v key s'))) n3:=Nz.set (t:=r.1) (b:=r.2) qJ c3 (T3.st.set r _ c3 e3) (by simp);exact⟨_,_,(N3.sub (by simp) (by simp)).trans (N4.sub (by simp) (by simp)),aq,T3.own N4 (fun q hq=>by have:=List.mem_singleton.1 hq;subst this;exact CG hr) (by simp)⟩⟩
  clear ld gr nr QM N3 c3 c hna hR qb zo hrl Co dnl;by_cases hT:ux E.l w
  ·obtain⟨k,rfl⟩:∃ k:Nat,w=(k:Int)+1:=⟨(w-1).toNat,by have:=hT.1;omega⟩;have hk:k<E.l.H.length:=by have:=hT.2;omega
   obtain⟨bk,off,sp,L,ro,rfl,gbk,hL⟩:=hel k hk;have aHr:=Kz _ _ gbk;have a1:E.l.H.getD k 0=hgt E.l (k+1):=by unfold hgt;rw[show ((k:Int)+1-1).toNat=k by omega]
   rw[a1] at hL;have b1:(1:Int)≤(k:Int)+1:=by omega
   have b2:(k:Int)+1≤E.l.H.length:=by omega
   have b4:IntKind.u64.wrap ((k:Int)+1-1)=k:=by rw[show (k:Int)+1-1=k by omega];exact wrap_u64 qJ qJ
   have hwi:IntKind.i64.wrap ((k:Int)+1)=(k:Int)+1:=wrap_i64 qJ qJ;have b5: ¬ (k:Int)+1=0:=by omega
   obtain⟨t1,t2⟩:=hT;clear hel gbk FC Kz T;by_cases hl:(lv:Int)<hgt E.l (k+1)
   ·have hnm:Jt E (k+1) lv=k+1:=if_pos ⟨⟨t1,t2⟩,hl⟩;have hr:SS.nx E ⟨21,nd,lv,cn,[x0,x1,x2,x3,x4,x5],[y0,y1,y2,y3,y4,y5],fo⟩ (k+1)=⟨22,nd,lv,k+1,[x0,x1,x2,x3,x4,x5],[y0,y1,y2,y3,y4,y5],fo⟩:=by
     have hn0: ¬ Jt E ((k:Int)+1) lv=0:=by rw[hnm];omega
     unfold SS.nx;rw[if_neg hn0,hnm]
    rw[hr] at hQ;clear hr hnm
    repeat' first|simp(disch:=try exact yj) only[go_sem, *] | (apply xs<;>intro _)<;>try omega | ((with_reducible refine b8 6 ?_);refine dw 161 6 abt (by first | (simp only[go_sem, *];done)|rfl) (by kernel_rfl) (by kernel_rfl) ?_) | ((with_reducible refine b8 18 ?_);refine dw 161 18 aaU (by first | (simp only[go_sem, *];done)|rfl) (by kernel_rfl) (by kernel_rfl) ?_)|refine fun (_ _:List Nat)=>?_ | (first|refine bD func91 rfl ?_ ?_ ?_ ?_ |fail)<;>intros
    refine iK.h ⟨22,nd,lv,k+1,[x0,x1,x2,x3,x4,x5],[y0,y1,y2,y3,y4,y5],fo⟩ _ ?_
    repeat rw[PT.set_set]
    rfl
   ·have hnm:Jt E (k+1) lv=0:=if_neg fun q=>hl q.2;have hr:SS.nx E ⟨21,nd,lv,cn,[x0,x1,x2,x3,x4,x5],[y0,y1,y2,y3,y4,y5],fo⟩ (k+1)=SS.ends ⟨21,nd,lv,0,[x0,x1,x2,x3,x4,x5],[y0,y1,y2,y3,y4,y5],fo⟩:=by
     unfold SS.nx;rw[if_pos hnm]
    clear hnm;by_cases hl0:lv=0
    ·subst hl0;rw[hr,show SS.ends ⟨21,nd,0,0,[x0,x1,x2,x3,x4,x5],[y0,y1,y2,y3,y4,y5],fo⟩=⟨0,nd,0,0,[nd,x1,x2,x3,x4,x5],[0,y1,y2,y3,y4,y5],fo⟩ from rfl] at hQ;clear hr
     repeat' first|simp(disch:=try exact yj) only[go_sem, *] | (apply xs<;>intro _)<;>try omega | ((with_reducible refine b8 6 ?_);refine dw 161 6 abt (by first | (simp only[go_sem, *];done)|rfl) (by kernel_rfl) (by kernel_rfl) ?_) | ((with_reducible refine b8 18 ?_);refine dw 161 18 aaU (by first | (simp only[go_sem, *];done)|rfl) (by kernel_rfl) (by kernel_rfl) ?_) | ((with_reducible refine b8 0 ?_);refine dw 43 0 aaX (by first | (simp only[go_sem, *];done)|rfl) (by kernel_rfl) (by kernel_rfl) ?_)|refine fun (_ _:List Nat)=>?_ | (first|refine bD func91 rfl ?_ ?_ ?_ ?_ |refine bD func92 rfl ?_ ?_ ?_ ?_ |fail)<;>intros
     refine iK.h ⟨0,nd,0,0,[nd,x1,x2,x3,x4,x5],[0,y1,y2,y3,y4,y5],fo⟩ _ ?_
     repeat rw[PT.set_set]
     rfl
    ·rw[hr,show SS.ends ⟨21,nd,lv,0,[x0,x1,x2,x3,x4,x5],[y0,y1,y2,y3,y4,y5],fo⟩=⟨21,nd,lv-1,0,[x0,x1,x2,x3,x4,x5].set lv nd,[y0,y1,y2,y3,y4,y5].set lv 0,fo⟩ by unfold SS.ends;rw[if_neg hl0]] at hQ;clear hr
     repeat' first|simp(disch:=try exact yj) only[go_sem, *,dB,ep,List.getElem?_set_ne,List.length_set,A0,A4] | (apply xs<;>intro _)<;>try omega | ((with_reducible refine b8 6 ?_);refine dw 161 6 abt (by first | (simp only[go_sem, *];done)|rfl) (by kernel_rfl) (by kernel_rfl) ?_) | ((with_reducible refine b8 18 ?_);refine dw 161 18 aaU (by first | (simp only[go_sem, *];done)|rfl) (by kernel_rfl) (by kernel_rfl) ?_) | ((with_reducible refine b8 0 ?_);refine dw 43 0 aaX (by first | (simp only[go_sem, *];done)|rfl) (by kernel_rfl) (by kernel_rfl) ?_)|refine fun (_ _:List Nat)=>?_ | (first|refine bD func91 rfl ?_ ?_ ?_ ?_ |refine bD func92 rfl ?_ ?_ ?_ ?_ |fail)<;>intros
     refine iK.h ⟨21,nd,lv-1,0,[x0,x1,x2,x3,x4,x5].set lv nd,[y0,y1,y2,y3,y4,y5].set lv 0,fo⟩ _ ?_
     repeat rw[PT.set_set]
     have h5:lv=1∨lv=2∨lv=3∨lv=4∨lv=5:=by omega
     rcases h5 with rfl|rfl|rfl|rfl|rfl<;>rfl
  ·have hnm:Jt E w lv=0:=if_neg fun q=>hT q.1;have hr:SS.nx E ⟨21,nd,lv,cn,[x0,x1,x2,x3,x4,x5],[y0,y1,y2,y3,y4,y5],fo⟩ w=SS.ends ⟨21,nd,lv,0,[x0,x1,x2,x3,x4,x5],[y0,y1,y2,y3,y4,y5],fo⟩:=by
    unfold SS.nx;rw[if_pos hnm]
   have b2:w=0∨(E.l.H.length:Int)<w:=by unfold ux at hT;omega
   clear hnm hT hel FC Kz T
   rcases b2 with rfl |b2
   ·by_cases hl0:lv=0
    ·subst hl0;rw[hr,show SS.ends ⟨21,nd,0,0,[x0,x1,x2,x3,x4,x5],[y0,y1,y2,y3,y4,y5],fo⟩=⟨0,nd,0,0,[nd,x1,x2,x3,x4,x5],[0,y1,y2,y3,y4,y5],fo⟩ from rfl] at hQ;clear hr
     repeat' first|simp(disch:=try exact yj) only[go_sem, *] | (apply xs<;>intro _)<;>try omega | ((with_reducible refine b8 6 ?_);refine dw 161 6 abt (by first | (simp only[go_sem, *];done)|rfl) (by kernel_rfl) (by kernel_rfl) ?_) | ((with_reducible refine b8 18 ?_);refine dw 161 18 aaU (by first | (simp only[go_sem, *];done)|rfl) (by kernel_rfl) (by kernel_rfl) ?_) | ((with_reducible refine b8 0 ?_);refine dw 43 0 aaX (by first | (simp only[go_sem, *];done)|rfl) (by kernel_rfl) (by kernel_rfl) ?_)|refine fun (_ _:List Nat)=>?_ | (first|refine bD func91 rfl ?_ ?_ ?_ ?_ |refine bD func92 rfl ?_ ?_ ?_ ?_ |fail)<;>intros
     refine iK.h ⟨0,nd,0,0,[nd,x1,x2,x3,x4,x5],[0,y1,y2,y3,y4,y5],fo⟩ _ ?_
     repeat rw[PT.set_set]
     rfl
    ·rw[hr,show SS.ends ⟨21,nd,lv,0,[x0,x1,x2,x3,x4,x5],[y0,y1,y2,y3,y4,y5],fo⟩=⟨21,nd,lv-1,0,[x0,x1,x2,x3,x4,x5].set lv nd,[y0,y1,y2,y3,y4,y5].set lv 0,fo⟩ by unfold SS.ends;rw[if_neg hl0]] at hQ;clear hr
     repeat' first|simp(disch:=try exact yj) only[go_sem, *,dB,ep,List.getElem?_set_ne,List.length_set,A0,A4] | (apply xs<;>intro _)<;>try omega | ((with_reducible refine b8 6 ?_);refine dw 161 6 abt (by first | (simp only[go_sem, *];done)|rfl) (by kernel_rfl) (by kernel_rfl) ?_) | ((with_reducible refine b8 18 ?_);refine dw 161 18 aaU (by first | (simp only[go_sem, *];done)|rfl) (by kernel_rfl) (by kernel_rfl) ?_) | ((with_reducible refine b8 0 ?_);refine dw 43 0 aaX (by first | (simp only[go_sem, *];done)|rfl) (by kernel_rfl) (by kernel_rfl) ?_)|refine fun (_ _:List Nat)=>?_ | (first|refine bD func91 rfl ?_ ?_ ?_ ?_ |refine bD func92 rfl ?_ ?_ ?_ ?_ |fail)<;>intros
     refine iK.h ⟨21,nd,lv-1,0,[x0,x1,x2,x3,x4,x5].set lv nd,[y0,y1,y2,y3,y4,y5].set lv 0,fo⟩ _ ?_
     repeat rw[PT.set_set]
     have h5:lv=1∨lv=2∨lv=3∨lv=4∨lv=5:=by omega
     rcases h5 with rfl|rfl|rfl|rfl|rfl<;>rfl
   ·have b1:(1:Int)≤w:=by omega
    by_cases hl0:lv=0
    ·subst hl0;rw[hr,show SS.ends ⟨21,nd,0,0,[x0,x1,x2,x3,x4,x5],[y0,y1,y2,y3,y4,y5],fo⟩=⟨0,nd,0,0,[nd,x1,x2,x3,x4,x5],[0,y1,y2,y3,y4,y5],fo⟩ from rfl] at hQ;clear hr
     repeat' first|simp(disch:=try exact yj) only[go_sem, *] | (apply xs<;>intro _)<;>try omega | ((with_reducible refine b8 6 ?_);refine dw 161 6 abt (by first | (simp only[go_sem, *];done)|rfl) (by kernel_rfl) (by kernel_rfl) ?_) | ((with_reducible refine b8 18 ?_);refine dw 161 18 aaU (by first | (simp only[go_sem, *];done)|rfl) (by kernel_rfl) (by kernel_rfl) ?_) | ((with_reducible refine b8 0 ?_);refine dw 43 0 aaX (by first | (simp only[go_sem, *];done)|rfl) (by kernel_rfl) (by kernel_rfl) ?_)|refine fun (_ _:List Nat)=>?_ | (first|refine bD func91 rfl ?_ ?_ ?_ ?_ |refine bD func92 rfl ?_ ?_ ?_ ?_ |fail)<;>intros
     refine iK.h ⟨0,nd,0,0,[nd,x1,x2,x3,x4,x5],[0,y1,y2,y3,y4,y5],fo⟩ _ ?_
     repeat rw[PT.set_set]
     rfl
    ·rw[hr,show SS.ends ⟨21,nd,lv,0,[x0,x1,x2,x3,x4,x5],[y0,y1,y2,y3,y4,y5],fo⟩=⟨21,nd,lv-1,0,[x0,x1,x2,x3,x4,x5].set lv nd,[y0,y1,y2,y3,y4,y5].set lv 0,fo⟩ by unfold SS.ends;rw[if_neg hl0]] at hQ;clear hr
     repeat' first|simp(disch:=try exact yj) only[go_sem, *,dB,ep,List.getElem?_set_ne,List.length_set,A0,A4] | (apply xs<;>intro _)<;>try omega | ((with_reducible refine b8 6 ?_);refine dw 161 6 abt (by first | (simp only[go_sem, *];done)|rfl) (by kernel_rfl) (by kernel_rfl) ?_) | ((with_reducible refine b8 18 ?_);refine dw 161 18 aaU (by first | (simp only[go_sem, *];done)|rfl) (by kernel_rfl) (by kernel_rfl) ?_) | ((with_reducible refine b8 0 ?_);refine dw 43 0 aaX (by first | (simp only[go_sem, *];done)|rfl) (by kernel_rfl) (by kernel_rfl) ?_)|refine fun (_ _:List Nat)=>?_ | (first|refine bD func91 rfl ?_ ?_ ?_ ?_ |refine bD func92 rfl ?_ ?_ ?_ ?_ |fail)<;>intros
     refine iK.h ⟨21,nd,lv-1,0,[x0,x1,x2,x3,x4,x5].set lv nd,[y0,y1,y2,y3,y4,y5].set lv 0,fo⟩ _ ?_
     repeat rw[PT.set_set]
     have h5:lv=1∨lv=2∨lv=3∨lv=4∨lv=5:=by omega
     rcases h5 with rfl|rfl|rfl|rfl|rfl<;>rfl
 ·simp only[kW,List.map_cons,List.map_nil,List.cons_append,List.nil_append] at gr;rw[if_neg qi] at gr;have hnd:=h5 qi;have hC:=h6 rfl;have ew:=T.ok.num.wrd hC.1 (w:=0) qi;have Mb:=T.ok.num.vh hC.1;have hR:ta E.l cn<E.sz:=by omega
  have Lz:yR E.Wt cn 0=iU [I6 (ta E.l cn),I6 0]:=by
   rw[←T.ok.wd];unfold og;rw[ew.1,ew.2,Int.add_zero]
  have zo:=gT Kz T.ok.vo;have hrl:=fun z f d ops r K m n=>@cw _ _ _ _ _ zo z f d ops r K m n (fun _ _ q=>q);have Co:=fun z L f d ops r K m n lo rd wr fs=>@eT _ _ _ _ _ zo z L f d ops r K m n lo rd wr fs (fun _ _ q=>q);have ld:=QD T qJ hth hR;have hwu:=tq T.ub (ta E.l cn:Int);have ha:SS.ad E ⟨22,nd,lv,cn,[x0,x1,x2,x3,x4,x5],[y0,y1,y2,y3,y4,y5],fo⟩=ta E.l cn:=if_neg (show ¬(22:Int)=21 by decide);have hst:∀ w,SS.step E ⟨22,nd,lv,cn,[x0,x1,x2,x3,x4,x5],[y0,y1,y2,y3,y4,y5],fo⟩ key w=SS.lk ⟨22,nd,lv,cn,[x0,x1,x2,x3,x4,x5],[y0,y1,y2,y3,y4,y5],fo⟩ key w:=fun w=>(if_neg (show ¬(22:Int)=21 by decide)).trans (if_pos rfl);simp only[ha,hst];rw[if_neg (show ¬(22:Int)=0 by decide)];clear ha hst Mb ew;obtain⟨⟨t1,t2⟩,t3⟩:=hC;generalize hna:ta E.l cn=ad at*;generalize vm b.W ad=w at*;clear h5 h6 h2 h3 hPL;refine ay (N:=161) func34 rfl rfl fun z hP hO hro hN hQ=>?_
  repeat' first|simp(disch:=try exact yj) only[go_sem, *,ep,Lz] | (apply xs<;>intro _)<;>try omega | ((with_reducible refine b8 11 ?_);refine dw 161 11 acy (by first | (simp only[go_sem, *];done)|rfl) (by kernel_rfl) (by kernel_rfl) ?_) | ((with_reducible refine b8 12 ?_);refine dw 161 12 acz (by first | (simp only[go_sem, *];done)|rfl) (by kernel_rfl) (by kernel_rfl) ?_)|refine fun (_ _:List Nat)=>?_ | (first|refine bD func88 rfl ?_ ?_ ?_ ?_ |fail)<;>intros
  refine jg (ld) ?_;rintro y h3 n3 ⟨d3,C3,rfl,N3,T3⟩;intro rd wr;have nr:r∉mB:=fun q=>by have:=QO q;omega
  have QM:r∉[((103:Nat),(0:Nat))]:=fun q=>by have:=List.mem_singleton.1 q;subst this;simp at hr
  have c3:=(N3.cc r nr).trans c;have e3:=N3.dd r QM;have g3:=T3.st.at c3;rw[e3] at g3;simp only[kW,List.map_cons,List.map_nil,List.cons_append,List.nil_append] at g3;rw[if_neg qi] at g3;have Lu:=T3.st.at ((N3.cc qB qi).trans qb);rw[N3.dd qB qi] at Lu;have Kz:=T3.fy.kept T3.st;have FD:=Kz _ _ T.ok.nX;rw[vH] at FD;have iK:Hid (∀ (s':SS) (h':PT aj),h'=h3.set (d r) (row (kW (d qB) th v key s'))→∃ d' C',Nz n d C (r::mB) [(103,0)] d' C' h' n3∧C' r=row (kW (d qB) th v key s')∧Tw E a (b.ld th ad) d' C' h' n3):=⟨fun s' h' e1=>by
   subst e1;have N4:Nz n3 d3 C3 [r] [] d3 (upd C3 r (row (kW (d qB) th v key s'))) (h3.set (d r) (row (kW (d qB) th v key s'))) n3:=Nz.set (t:=r.1) (b:=r.2) qJ c3 (T3.st.set r _ c3 e3) (by simp);exact⟨_,_,(N3.sub (by simp) (by simp)).trans (N4.sub (by simp) (by simp)),aq,T3.own N4 (fun q hq=>by have:=List.mem_singleton.1 hq;subst this;exact CG hr) (by simp)⟩⟩
  clear ld gr nr QM N3 c3 c hna hR qb zo hrl Co dnl hel FC Kz T;by_cases hlt:w<key
  ·rw[show SS.lk ⟨22,nd,lv,cn,[x0,x1,x2,x3,x4,x5],[y0,y1,y2,y3,y4,y5],fo⟩ key w=⟨21,cn,lv,cn,[x0,x1,x2,x3,x4,x5],[y0,y1,y2,y3,y4,y5],fo⟩ from if_pos hlt] at hQ
   repeat' first|simp(disch:=try exact yj) only[go_sem, *] | (apply xs<;>intro _)<;>try omega | ((with_reducible refine b8 18 ?_);refine dw 161 18 aaU (by first | (simp only[go_sem, *];done)|rfl) (by kernel_rfl) (by kernel_rfl) ?_)|refine fun (_ _:List Nat)=>?_
   refine iK.h ⟨21,cn,lv,cn,[x0,x1,x2,x3,x4,x5],[y0,y1,y2,y3,y4,y5],fo⟩ _ ?_
   repeat rw[PT.set_set]
   rfl
  ·have jk:SS.lk ⟨22,nd,lv,cn,[x0,x1,x2,x3,x4,x5],[y0,y1,y2,y3,y4,y5],fo⟩ key w=SS.ends ⟨22,nd,lv,cn,[x0,x1,x2,x3,x4,x5],[y0,y1,y2,y3,y4,y5],if w=key∧fo=0 then cn else fo⟩:=if_neg hlt;by_cases he:w=key
   ·by_cases hf:fo=0
    ·have hr:=jk;rw[if_pos ⟨he,hf⟩] at hr;clear jk;by_cases hl0:lv=0
     ·subst hl0;rw[hr,show SS.ends ⟨22,nd,0,cn,[x0,x1,x2,x3,x4,x5],[y0,y1,y2,y3,y4,y5],cn⟩=⟨0,nd,0,cn,[nd,x1,x2,x3,x4,x5],[cn,y1,y2,y3,y4,y5],cn⟩ from rfl] at hQ;clear hr
      repeat' first|simp(disch:=try exact yj) only[go_sem, *] | (apply xs<;>intro _)<;>try omega | ((with_reducible refine b8 18 ?_);refine dw 161 18 aaU (by first | (simp only[go_sem, *];done)|rfl) (by kernel_rfl) (by kernel_rfl) ?_) | ((with_reducible refine b8 0 ?_);refine dw 43 0 aaX (by first | (simp only[go_sem, *];done)|rfl) (by kernel_rfl) (by kernel_rfl) ?_)|refine fun (_ _:List Nat)=>?_ | (first|refine bD func92 rfl ?_ ?_ ?_ ?_ |fail)<;>intros
      refine iK.h ⟨0,nd,0,cn,[nd,x1,x2,x3,x4,x5],[cn,y1,y2,y3,y4,y5],cn⟩ _ ?_
      repeat rw[PT.set_set]
      rfl
     ·rw[hr,show SS.ends ⟨22,nd,lv,cn,[x0,x1,x2,x3,x4,x5],[y0,y1,y2,y3,y4,y5],cn⟩=⟨21,nd,lv-1,cn,[x0,x1,x2,x3,x4,x5].set lv nd,[y0,y1,y2,y3,y4,y5].set lv cn,cn⟩ by unfold SS.ends;rw[if_neg hl0]] at hQ;clear hr
      repeat' first|simp(disch:=try exact yj) only[go_sem, *,dB,ep,List.getElem?_set_ne,List.length_set,A0,A4] | (apply xs<;>intro _)<;>try omega | ((with_reducible refine b8 18 ?_);refine dw 161 18 aaU (by first | (simp only[go_sem, *];done)|rfl) (by kernel_rfl) (by kernel_rfl) ?_) | ((with_reducible refine b8 0 ?_);refine dw 43 0 aaX (by first | (simp only[go_sem, *];done)|rfl) (by kernel_rfl) (by kernel_rfl) ?_)|refine fun (_ _:List Nat)=>?_ | (first|refine bD func92 rfl ?_ ?_ ?_ ?_ |fail)<;>intros
      refine iK.h ⟨21,nd,lv-1,cn,[x0,x1,x2,x3,x4,x5].set lv nd,[y0,y1,y2,y3,y4,y5].set lv cn,cn⟩ _ ?_
      repeat rw[PT.set_set]
      have h5:lv=1∨lv=2∨lv=3∨lv=4∨lv=5:=by omega
      rcases h5 with rfl|rfl|rfl|rfl|rfl<;>rfl
    ·have hr:=jk;rw[if_neg fun q=>hf q.2] at hr;clear jk;by_cases hl0:lv=0
     ·subst hl0;rw[hr,show SS.ends ⟨22,nd,0,cn,[x0,x1,x2,x3,x4,x5],[y0,y1,y2,y3,y4,y5],fo⟩=⟨0,nd,0,cn,[nd,x1,x2,x3,x4,x5],[cn,y1,y2,y3,y4,y5],fo⟩ from rfl] at hQ;clear hr
      repeat' first|simp(disch:=try exact yj) only[go_sem, *] | (apply xs<;>intro _)<;>try omega | ((with_reducible refine b8 18 ?_);refine dw 161 18 aaU (by first | (simp only[go_sem, *];done)|rfl) (by kernel_rfl) (by kernel_rfl) ?_) | ((with_reducible refine b8 0 ?_);refine dw 43 0 aaX (by first | (simp only[go_sem, *];done)|rfl) (by kernel_rfl) (by kernel_rfl) ?_)|refine fun (_ _:List Nat)=>?_ | (first|refine bD func92 rfl ?_ ?_ ?_ ?_ |fail)<;>intros
      refine iK.h ⟨0,nd,0,cn,[nd,x1,x2,x3,x4,x5],[cn,y1,y2,y3,y4,y5],fo⟩ _ ?_
      repeat rw[PT.set_set]
      rfl
     ·rw[hr,show SS.ends ⟨22,nd,lv,cn,[x0,x1,x2,x3,x4,x5],[y0,y1,y2,y3,y4,y5],fo⟩=⟨21,nd,lv-1,cn,[x0,x1,x2,x3,x4,x5].set lv nd,[y0,y1,y2,y3,y4,y5].set lv cn,fo⟩ by unfold SS.ends;rw[if_neg hl0]] at hQ;clear hr
      repeat' first|simp(disch:=try exact yj) only[go_sem, *,dB,ep,List.getElem?_set_ne,List.length_set,A0,A4] | (apply xs<;>intro _)<;>try omega | ((with_reducible refine b8 18 ?_);refine dw 161 18 aaU (by first | (simp only[go_sem, *];done)|rfl) (by kernel_rfl) (by kernel_rfl) ?_) | ((with_reducible refine b8 0 ?_);refine dw 43 0 aaX (by first | (simp only[go_sem, *];done)|rfl) (by kernel_rfl) (by kernel_rfl) ?_)|refine fun (_ _:List Nat)=>?_ | (first|refine bD func92 rfl ?_ ?_ ?_ ?_ |fail)<;>intros
      refine iK.h ⟨21,nd,lv-1,cn,[x0,x1,x2,x3,x4,x5].set lv nd,[y0,y1,y2,y3,y4,y5].set lv cn,fo⟩ _ ?_
      repeat rw[PT.set_set]
      have h5:lv=1∨lv=2∨lv=3∨lv=4∨lv=5:=by omega
      rcases h5 with rfl|rfl|rfl|rfl|rfl<;>rfl
   ·have hr:=jk;rw[if_neg fun q=>he q.1] at hr;clear jk;by_cases hl0:lv=0
    ·subst hl0;rw[hr,show SS.ends ⟨22,nd,0,cn,[x0,x1,x2,x3,x4,x5],[y0,y1,y2,y3,y4,y5],fo⟩=⟨0,nd,0,cn,[nd,x1,x2,x3,x4,x5],[cn,y1,y2,y3,y4,y5],fo⟩ from rfl] at hQ;clear hr
     repeat' first|simp(disch:=try exact yj) only[go_sem, *] | (apply xs<;>intro _)<;>try omega | ((with_reducible refine b8 18 ?_);refine dw 161 18 aaU (by first | (simp only[go_sem, *];done)|rfl) (by kernel_rfl) (by kernel_rfl) ?_) | ((with_reducible refine b8 0 ?_);refine dw 43 0 aaX (by first | (simp only[go_sem, *];done)|rfl) (by kernel_rfl) (by kernel_rfl) ?_)|refine fun (_ _:List Nat)=>?_ | (first|refine bD func92 rfl ?_ ?_ ?_ ?_ |fail)<;>intros
     refine iK.h ⟨0,nd,0,cn,[nd,x1,x2,x3,x4,x5],[cn,y1,y2,y3,y4,y5],fo⟩ _ ?_
     repeat rw[PT.set_set]
     rfl
    ·rw[hr,show SS.ends ⟨22,nd,lv,cn,[x0,x1,x2,x3,x4,x5],[y0,y1,y2,y3,y4,y5],fo⟩=⟨21,nd,lv-1,cn,[x0,x1,x2,x3,x4,x5].set lv nd,[y0,y1,y2,y3,y4,y5].set lv cn,fo⟩ by unfold SS.ends;rw[if_neg hl0]] at hQ;clear hr
     repeat' first|simp(disch:=try exact yj) only[go_sem, *,dB,ep,List.getElem?_set_ne,List.length_set,A0,A4] | (apply xs<;>intro _)<;>try omega | ((with_reducible refine b8 18 ?_);refine dw 161 18 aaU (by first | (simp only[go_sem, *];done)|rfl) (by kernel_rfl) (by kernel_rfl) ?_) | ((with_reducible refine b8 0 ?_);refine dw 43 0 aaX (by first | (simp only[go_sem, *];done)|rfl) (by kernel_rfl) (by kernel_rfl) ?_)|refine fun (_ _:List Nat)=>?_ | (first|refine bD func92 rfl ?_ ?_ ?_ ?_ |fail)<;>intros
     refine iK.h ⟨21,nd,lv-1,cn,[x0,x1,x2,x3,x4,x5].set lv nd,[y0,y1,y2,y3,y4,y5].set lv cn,fo⟩ _ ?_
     repeat rw[PT.set_set]
     have h5:lv=1∨lv=2∨lv=3∨lv=4∨lv=5:=by omega
     rcases h5 with rfl|rfl|rfl|rfl|rfl<;>rfl
end
end Go.Proofs.YtofmbmclopgldaaGreat
namespace Go.Proofs.YtofmbmclopgldaaGreat
open Go.Am Go.Proofs.Tryz
section
variable {E:Ev} {a b:Sd} {d:Rl→Nat} {C:Rl→Option aj} {h:PT aj} {n:Nat}
theorem ahm(T:Tw E a b d C h n)(r:Rl)(hr:200≤r.1∧r.1≤9000){th v key:Int}(hv : -9223372036854775808≤v∧v≤9223372036854775807):
  cE prog OB 29 [pt (d (70,0)),I6 th,I6 v,U6 key] h n fun y h' n'=>(¬((0≤th∧th<64)∧0≤v∧v<E.V)∧y=iU [.pointer none,I6 2]∧∃ d' C',Nz n d C [] [] d' C' h' n')∨
   (((0≤th∧th<64)∧0≤v∧v<E.V)∧∃ d' C',y=iU [pt (d' r),I6 0]∧Nz n d C [r] [r] d' C' h' n'∧C' r=row (kV (d (70,0)) (d' r) th key (SS.new v))):=by
 have cfg:=QN T;have Xl:=T.ok.dom;have RS:=wI T.ok.dom;have hcn:=T.ok.cnt.symm;have hV:=T.ok.num.V2;have n70:=T.st.lt (by obtain⟨stk,tag,X,xk,R,rk,M,B,Pk,I,EV⟩:=T.pg;exact B.base);refine ay (N:=49) func29 rfl rfl fun z hP hO hro hN hQ=>?_
 repeat' first|simp(disch:=try exact yj) only[go_sem, *] | (apply xs<;>intro _)<;>try omega|refine fun (_ _:List Nat)=>?_
 refine jg (cfg) ?_;rintro y h3 n3 ⟨x0,x1,x2,x3,s,x7,x8,x9,x10,x11,x12,x13,x14,x15,rfl,hs3,k3,w3,l3⟩;have hrd:=fun h' hk z f d ops r K m n=>@gI _ _ h' _ _ hs3 z f d ops r K m n hk;obtain⟨sa,sc,rfl,-⟩:=hs3.len;clear cfg;by_cases hok:(0≤th∧th<64)∧0≤v∧v<E.V
 ·obtain⟨⟨o1,o2⟩,o3,o4⟩:=hok
  repeat' first|simp(disch:=try exact yj) only[go_sem, *,lG] | (apply xs<;>intro _)<;>try omega|refine fun (_ _:List Nat)=>?_ | (first|refine bD func80 rfl ?_ ?_ ?_ ?_ |fail)<;>intros
  repeat rw[PT.set_set]
  have S3:=(T.st.kept k3 w3).new r (.cells (PT.ofList .leaf 0 (kV (d (70,0)) n3 th key (SS.new v))) false) (Nat.le_refl n3) (Nat.lt_succ_self n3);exact⟨_,_,by rw[aq],(Nz.keep T.st k3 w3 l3).trans (Nz.new (t:=r.1) (b:=r.2) qJ (Nat.le_refl _) (Nat.le_succ _) S3),by rw[aq,aq];rfl⟩
 ·repeat' first|simp(disch:=try exact yj) only[go_sem, *,lG] | (apply xs<;>intro _)<;>try omega|refine fun (_ _:List Nat)=>?_
  all_goals exact⟨d,C,Nz.keep T.st k3 w3 l3⟩
theorem XE(T:Tw E a b d C h n)(r:Rl)(hr:200≤r.1∧r.1≤9000){th v key:Int}(hv : -9223372036854775808≤v∧v≤9223372036854775807):
  cE prog OB 30 [pt (d qB),I6 th,I6 v,U6 key] h n fun y h' n'=>(¬((0≤th∧th<64)∧0≤v∧v<E.V)∧y=iU [.pointer none,I6 2]∧∃ d' C',Nz n d C [] [] d' C' h' n')∨
   (((0≤th∧th<64)∧0≤v∧v<E.V)∧∃ d' C',y=iU [pt (d' r),I6 0]∧Nz n d C [r] [r] d' C' h' n'∧C' r=row (kW (d qB) th v key (SS.new v))):=by
 have Xl:=T.ok.dom;have RS:=wI T.ok.dom;have NC:=uu (show E.xs.length<1000000000000000 by omega) fun x hx=>(T.ok.pos x hx).1;have hcn:=T.ok.cnt.symm;have hV:=T.ok.num.V2;obtain⟨pv,vv,qb⟩:=T.rf.base;have Lu:=T.st.at qb;have nqb:=T.st.lt qb;have Kz:=T.fy.kept T.st;have FD:=Kz _ _ T.ok.nX;obtain⟨z0,z1,z2,z3,z7,z8,z9,z10,z11,z12,z13,z14,z15,wv,vH⟩:=T.ok.s2;obtain⟨q0,q1,q2,q3,q4,q5,q6,q7,q8,hPL⟩:=T.ok.num.PL;rw[hPL] at vH;simp only[List.map_cons,List.map_nil,List.cons_append,List.nil_append] at vH;rw[vH] at FD;have hcu:=T.ok.Cg;have hrd:=fun h' hk z f d ops r K m n=>@gI _ _ h' _ _ hcu z f d ops r K m n hk;obtain⟨sa,sc,AF,-⟩:=hcu.len;rw[AF] at FD hrd vH;clear hPL hcu AF;refine ay (N:=29) func30 rfl rfl fun z hP hO hro hN hQ=>?_;by_cases hok:(0≤th∧th<64)∧0≤v∧v<E.V
 ·obtain⟨⟨o1,o2⟩,o3,o4⟩:=hok
  repeat' first|simp(disch:=try exact yj) only[go_sem, *,fk] | (apply xs<;>intro _)<;>try omega|refine fun (_ _:List Nat)=>?_ | (first|refine bD func82 rfl ?_ ?_ ?_ ?_ |refine bD func83 rfl ?_ ?_ ?_ ?_ |fail)<;>intros
  have S3:=T.st.new r (.cells (PT.ofList .leaf 0 (kW (d qB) th v key (SS.new v))) false) (Nat.le_refl n) (Nat.lt_succ_self n);exact⟨_,_,by rw[aq],Nz.new (t:=r.1) (b:=r.2) qJ (Nat.le_refl _) (Nat.le_succ _) S3,by rw[aq];rfl⟩
 ·repeat' first|simp(disch:=try exact yj) only[go_sem, *,fk] | (apply xs<;>intro _)<;>try omega|refine fun (_ _:List Nat)=>?_ | (first|refine bD func82 rfl ?_ ?_ ?_ ?_ |refine bD func83 rfl ?_ ?_ ?_ ?_ |fail)<;>intros
  all_goals exact⟨d,C,Nz.refl T.st⟩
end
end Go.Proofs.YtofmbmclopgldaaGreat
namespace Go.Proofs.YtofmbmclopgldaaGreat
open Go.Am Go.Proofs.Tryz
theorem aaC:prog.eqGuardType prog.depth 88=false:=by kernel_rfl
def QS(a b c d e f a' b' c' d' e' f':Int):AP Bool:=cond (a==a') (cond (b==b') (cond (c==c') (cond (d==d') (cond (e==e') (cond (f==f') (.pure true) (.pure false)) (.pure false)) (.pure false)) (.pure false)) (.pure false)) (.pure false)
theorem Vu(a b c d e f a' b' c' d' e' f':Int):cj prog 12 88 (.agg ⟨[I6 a,I6 b,I6 c,I6 d,I6 e,I6 f]⟩) (.agg ⟨[I6 a',I6 b',I6 c',I6 d',I6 e',I6 f']⟩)=QS a b c d e f a' b' c' d' e' f':=by kernel_rfl
theorem HR(a b c d e f:Int):QS a b c d e f a b c d e f = .pure true:=by
 unfold QS;simp
theorem eqA(a b c d e f:Int)(cx cy:Bool):dN prog .eql 88 cx cy (.agg ⟨[I6 a,I6 b,I6 c,I6 d,I6 e,I6 f]⟩) (.agg ⟨[I6 a,I6 b,I6 c,I6 d,I6 e,I6 f]⟩) = .pure (.value (.bool true)):=by
 simp only[dN,eE,b9,aaC,Bool.not_false,cond_true,Vu,HR,AP.bind]
section
variable {E:Ev} {a b:Sd} {d:Rl→Nat} {C:Rl→Option aj} {h:PT aj} {n:Nat}
theorem HT(S:St h n d C){r r':Rl}{mV bq:Nat}{th v key:Int}{s:SS}(hs:rN E s)(c:C r=row (kV mV (d r) th key s))(c':C r'=row (kW bq th v key s)):
  cE prog OB 32 [pt (d r),pt (d r')] h n fun y h' n'=>y = .bool true∧Kept h h'∧bQ h' n'∧n≤n':=by
 have gr:=S.at c;have gr':=S.at c';have nr:=S.lt c;have nr':=S.lt c';have hW:=S.wf;generalize d r=q at*;generalize d r'=q' at*;obtain⟨pc,nd,lv,cn,bf,af,fo⟩:=s;obtain⟨h1,h2,h3,h4,h5,h6⟩:=hs;obtain⟨x0,x1,x2,x3,x4,x5,rfl⟩:=six h2;obtain⟨y0,y1,y2,y3,y4,y5,rfl⟩:=six h3;simp only at h1 h4;clear h2 h3 h5 h6 c c' S
 rcases h4 with rfl|rfl|rfl
 ·simp only[kV,ahj,List.map_cons,List.map_nil,List.cons_append,List.nil_append] at gr;simp only[kW,List.map_cons,List.map_nil,List.cons_append,List.nil_append] at gr';refine ay (N:=52) func32 rfl rfl fun z hP hO hro hN hQ=>?_
  repeat' first|simp(disch:=try exact yj) only[go_sem, *,eqA] | (apply xs<;>intro _)<;>try omega | ((with_reducible refine b8 5 ?_);refine dw 29 5 agv (by first | (simp only[go_sem, *];done)|rfl) (by kernel_rfl) (by kernel_rfl) ?_)|refine fun (_ _:List Nat)=>?_ | (first|refine bD func40 rfl ?_ ?_ ?_ ?_ |refine bD func86 rfl ?_ ?_ ?_ ?_ |refine bD func87 rfl ?_ ?_ ?_ ?_ |refine bD func88 rfl ?_ ?_ ?_ ?_ |fail)<;>intros
  refine⟨?_,?_,by omega⟩
  ·repeat refine Kept.set' hW qJ ?_
   exact Kept.refl _
  ·(repeat refine bQ.set' qJ ?_);first|assumption|exact bQ.mono (by assumption) qJ
 ·simp only[kV,QJ,List.map_cons,List.map_nil,List.cons_append,List.nil_append] at gr;simp only[kW,List.map_cons,List.map_nil,List.cons_append,List.nil_append] at gr';refine ay (N:=52) func32 rfl rfl fun z hP hO hro hN hQ=>?_
  repeat' first|simp(disch:=try exact yj) only[go_sem, *,eqA] | (apply xs<;>intro _)<;>try omega | ((with_reducible refine b8 4 ?_);refine dw 29 4 acs (by first | (simp only[go_sem, *];done)|rfl) (by kernel_rfl) (by kernel_rfl) ?_)|refine fun (_ _:List Nat)=>?_ | (first|refine bD func40 rfl ?_ ?_ ?_ ?_ |refine bD func86 rfl ?_ ?_ ?_ ?_ |refine bD func87 rfl ?_ ?_ ?_ ?_ |refine bD func88 rfl ?_ ?_ ?_ ?_ |fail)<;>intros
  refine⟨?_,?_,by omega⟩
  ·repeat refine Kept.set' hW qJ ?_
   exact Kept.refl _
  ·(repeat refine bQ.set' qJ ?_);first|assumption|exact bQ.mono (by assumption) qJ
 ·simp only[kV,QK,List.map_cons,List.map_nil,List.cons_append,List.nil_append] at gr;simp only[kW,List.map_cons,List.map_nil,List.cons_append,List.nil_append] at gr';refine ay (N:=52) func32 rfl rfl fun z hP hO hro hN hQ=>?_
  repeat' first|simp(disch:=try exact yj) only[go_sem, *,eqA] | (apply xs<;>intro _)<;>try omega | ((with_reducible refine b8 4 ?_);refine dw 29 4 acs (by first | (simp only[go_sem, *];done)|rfl) (by kernel_rfl) (by kernel_rfl) ?_)|refine fun (_ _:List Nat)=>?_ | (first|refine bD func40 rfl ?_ ?_ ?_ ?_ |refine bD func86 rfl ?_ ?_ ?_ ?_ |refine bD func87 rfl ?_ ?_ ?_ ?_ |refine bD func88 rfl ?_ ?_ ?_ ?_ |fail)<;>intros
  refine⟨?_,?_,by omega⟩
  ·repeat refine Kept.set' hW qJ ?_
   exact Kept.refl _
  ·(repeat refine bQ.set' qJ ?_);first|assumption|exact bQ.mono (by assumption) qJ
end
end Go.Proofs.YtofmbmclopgldaaGreat
