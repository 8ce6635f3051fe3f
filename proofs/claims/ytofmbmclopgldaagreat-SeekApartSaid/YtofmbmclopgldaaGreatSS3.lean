/-
A part.
-/
import Derived.Test.YtofmbmclopgldaaGreatSO1
set_option linter.all false
set_option maxRecDepth 100000
set_option maxHeartbeats 16000000
namespace Go.Proofs.YtofmbmclopgldaaGreat
open Go.Am Go.Proofs.Tryz
def fnV(b:Nat)(pc:Int):Value:=if pc=21 then .func (.func 81) ⟨[pt b]⟩ ⟨[]⟩ else if pc=22 then .func (.func 166) ⟨[pt b]⟩ ⟨[]⟩ else .nilFunc
theorem QJ{b:Nat}:fnV b 21 = .func (.func 81) ⟨[pt b]⟩ ⟨[]⟩:=rfl
theorem QK{b:Nat}:fnV b 22 = .func (.func 166) ⟨[pt b]⟩ ⟨[]⟩:=rfl
theorem ahj{b:Nat}:fnV b 0 = .nilFunc:=rfl
abbrev kV(mV b:Nat)(th key:Int)(s:SS):List Value:=[pt mV,I6 th,U6 key,I6 s.nd,I6 s.lv,I6 s.c]++(s.bf.map (.int .i64)++(s.af.map (.int .i64)++[I6 s.fo,U8 s.pc,fnV b s.pc]))
theorem six{l:List Int}(h:l.length=6):∃ a b c d e f,l=[a,b,c,d,e,f]:=by
 match l,h with
 | [a,b,c,d,e,f],_=>exact⟨a,b,c,d,e,f,rfl⟩
theorem QL{r:Rl}(h:r∈mA):r.1<200:=by
 simp only[List.mem_cons,List.not_mem_nil,or_false] at h
 rcases h with rfl|rfl|rfl<;>decide
theorem CG{r:Rl}(h:200≤r.1∧r.1≤9000):(r.1∉sA∧r.1∉sB)∧r.1≠9998:=by
 refine⟨⟨fun q=>?_,fun q=>?_⟩,by omega⟩
 ·simp only[List.mem_cons,List.not_mem_nil,or_false] at q;omega
 ·simp only[List.mem_cons,List.not_mem_nil,or_false] at q;omega
section
variable {E:Ev} {a b:Sd} {d:Rl→Nat} {C:Rl→Option aj} {h:PT aj} {n:Nat}
theorem aay(T:Tw E a b d C h n)(hk:a.k≤80000){r:Rl}(hr:200≤r.1∧r.1≤9000){th key:Int}{s:SS}(hs:rN E s)(hth:0≤th∧th<64)(hkey:0≤key∧key<18446744073709551616)(c:C r=row (kV (d (70,0)) (d r) th key s)):
  cE prog OB 33 [pt (d r)] h n fun v h' n'=>v=iU [U8 s.pc,.bool (decide (s.pc≠0∧(s.step E key (vm a.W (s.ad E))).pc=0))]∧∃ d' C',Nz n d C (r::mA) [(2,0)] d' C' h' n'∧C' r=row (kV (d (70,0)) (d r) th key (s.step E key (vm a.W (s.ad E))))∧
   Tw E (if s.pc=0 then a else a.ld th (s.ad E)) b d' C' h' n':=by
 obtain⟨stk,tag,X,xk,R,rk,M,B,Pk,I,EV⟩:=T.pg;have mV:=B.base;have FA:=T.st.at mV;have gr:=T.st.at c;have K:=T.fz.kept T.st;have Wf:=T.fz.wf;have n1n:=T.le;have hl0:=T.ok.look;have hrl:=fun h' hk z f d ops r K m n=>@cw _ _ _ _ h' hl0 z f d ops r K m n hk;have Co:=fun h' hk z L f d ops r K m n lo rd wr fs=>@eT _ _ _ _ h' hl0 z L f d ops r K m n lo rd wr fs hk;have Ia:=fun h' lo hi hk hl=>@kP _ _ _ _ h' _ lo hi hl0 Wf hk hl;have aHi:=T.st.df c mV (fun q=>by subst q;simp at hr);obtain⟨pc,nd,lv,cn,bf,af,fo⟩:=s;obtain⟨h1,h2,h3,h4,h5,h6⟩:=hs;obtain⟨x0,x1,x2,x3,x4,x5,rfl⟩:=six h2;obtain⟨y0,y1,y2,y3,y4,y5,rfl⟩:=six h3;simp only at h1 h4 h5 h6
 rcases h4 with rfl|rfl|rfl
 ·simp only[kV,ahj,List.map_cons,List.map_nil,List.cons_append,List.nil_append] at gr;refine ay (N:=23) func33 rfl rfl fun z hP hO hro hN hQ=>?_
  repeat' first|simp(disch:=try exact yj) only[go_sem, *] | (apply xs<;>intro _)<;>try omega|refine fun (_ _:List Nat)=>?_
  exact⟨d,C,Nz.refl T.st,c,T⟩
 ·simp only[kV,QJ,List.map_cons,List.map_nil,List.cons_append,List.nil_append] at gr;have hnd:=h5 qi;have en:=T.ok.num.nxt hnd;have hR:=(T.ok.num.naR hnd).2;have ld:=Xu T qJ hth hR;have hwu:=tq T.ua (na E.l nd lv:Int);have ha:SS.ad E ⟨21,nd,lv,cn,[x0,x1,x2,x3,x4,x5],[y0,y1,y2,y3,y4,y5],fo⟩=na E.l nd lv:=if_pos rfl;have hst:∀ w,SS.step E ⟨21,nd,lv,cn,[x0,x1,x2,x3,x4,x5],[y0,y1,y2,y3,y4,y5],fo⟩ key w=SS.nx E ⟨21,nd,lv,cn,[x0,x1,x2,x3,x4,x5],[y0,y1,y2,y3,y4,y5],fo⟩ w:=fun w=>if_pos rfl;simp only[ha,hst];rw[if_neg (show ¬(21:Int)=0 by decide)];clear ha hst;generalize hna:na E.l nd lv=ad at*;generalize vm a.W ad=w at*;clear h5 h6 hl0 h2 h3;refine ay (N:=23) func33 rfl rfl fun z hP hO hro hN hQ=>?_
  repeat' first|simp(disch:=try exact yj) only[go_sem, *,AH,j5] | (apply xs<;>intro _)<;>try omega | ((with_reducible refine b8 1 ?_);refine dw 55 1 ag5 (by first | (simp only[go_sem, *];done)|rfl) (by kernel_rfl) (by kernel_rfl) ?_) | ((with_reducible refine b8 2 ?_);refine dw 55 2 ahc (by first | (simp only[go_sem, *];done)|rfl) (by kernel_rfl) (by kernel_rfl) ?_)|refine fun (_ _:List Nat)=>?_ | (first|refine bD func81 rfl ?_ ?_ ?_ ?_ |fail)<;>intros
  refine jg (ld) ?_;rintro y h3 n3 ⟨d3,C3,rfl,N3,T3⟩;intro rd wr;have nr:r∉mA:=fun q=>by have:=QL q;omega
  have QM:r∉[((2:Nat),(0:Nat))]:=fun q=>by have:=List.mem_singleton.1 q;subst this;simp at hr
  have c3:=(N3.cc r nr).trans c;have e3:=N3.dd r QM;have g3:=T3.st.at c3;rw[e3] at g3;simp only[kV,QJ,List.map_cons,List.map_nil,List.cons_append,List.nil_append] at g3;have FA:=T3.st.at ((N3.cc (70,0) qi).trans mV);rw[N3.dd (70,0) qi] at FA;have K3:=T3.fz.kept T3.st;have iK:Hid (∀ (s':SS) (h':PT aj),h'=h3.set (d r) (row (kV (d (70,0)) (d r) th key s'))→∃ d' C',Nz n d C (r::mA) [(2,0)] d' C' h' n3∧C' r=row (kV (d (70,0)) (d r) th key s')∧Tw E (a.ld th ad) b d' C' h' n3):=⟨fun s' h' e1=>by
   subst e1;have N4:Nz n3 d3 C3 [r] [] d3 (upd C3 r (row (kV (d (70,0)) (d r) th key s'))) (h3.set (d r) (row (kV (d (70,0)) (d r) th key s'))) n3:=Nz.set (t:=r.1) (b:=r.2) qJ c3 (T3.st.set r _ c3 e3) (by simp);exact⟨_,_,(N3.sub (by simp) (by simp)).trans (N4.sub (by simp) (by simp)),aq,T3.own N4 (fun q hq=>by have:=List.mem_singleton.1 hq;subst this;exact CG hr) (by simp)⟩⟩
  clear ld gr K nr QM N3 T3 c3 c hna hR M B Pk I EV mV;have IZ:=T.ok.hlen;have hHw:IntKind.u64.wrap (E.l.H.length:Int)=E.l.H.length:=wrap_u64 qJ qJ;have hgA:∀ w,ux E.l w→qx E.l.H w=hgt E.l w:=fun w q=>if_pos q;have hgE:∀ w,ux E.l w→yC E.l.H w=0:=fun w q=>if_pos q;by_cases hT:ux E.l w
  ·have a1:=hgA w hT;have a2:=hgE w hT;obtain⟨t1,t2⟩:=hT;clear hgA hgE;have b1: ¬ w=0:=by omega
   have b2: ¬ (E.l.H.length:Int)<w:=by omega
   have hwi:IntKind.i64.wrap w=w:=wrap_i64 qJ qJ;by_cases hl:(lv:Int)<hgt E.l w
   ·have hnm:Jt E w lv=w:=if_pos ⟨⟨t1,t2⟩,hl⟩;have hn0: ¬ Jt E w lv=0:=by omega
    have hr:SS.nx E ⟨21,nd,lv,cn,[x0,x1,x2,x3,x4,x5],[y0,y1,y2,y3,y4,y5],fo⟩ w=⟨22,nd,lv,w,[x0,x1,x2,x3,x4,x5],[y0,y1,y2,y3,y4,y5],fo⟩:=by
     unfold SS.nx;rw[if_neg hn0,hnm]
    rw[hr] at hQ;clear hr hnm hn0
    repeat' first|simp(disch:=try exact yj) only[go_sem, *,cu,cT,dR] | (apply xs<;>intro _)<;>try omega|refine fun (_ _:List Nat)=>?_ | (first|refine bD func164 rfl ?_ ?_ ?_ ?_ |refine bD func80 rfl ?_ ?_ ?_ ?_ |fail)<;>intros
    refine iK.h ⟨22,nd,lv,w,[x0,x1,x2,x3,x4,x5],[y0,y1,y2,y3,y4,y5],fo⟩ _ ?_;rw[PT.set_set,PT.set_set];rfl
   ·have hnm:Jt E w lv=0:=if_neg fun q=>hl q.2;have b3:hgt E.l w≤lv:=by omega
    have hr:SS.nx E ⟨21,nd,lv,cn,[x0,x1,x2,x3,x4,x5],[y0,y1,y2,y3,y4,y5],fo⟩ w=SS.ends ⟨21,nd,lv,0,[x0,x1,x2,x3,x4,x5],[y0,y1,y2,y3,y4,y5],fo⟩:=by
     unfold SS.nx;rw[if_pos hnm]
    clear hnm;by_cases hl0:lv=0
    ·subst hl0;rw[hr,show SS.ends ⟨21,nd,0,0,[x0,x1,x2,x3,x4,x5],[y0,y1,y2,y3,y4,y5],fo⟩=⟨0,nd,0,0,[nd,x1,x2,x3,x4,x5],[0,y1,y2,y3,y4,y5],fo⟩ from rfl] at hQ;clear hr
     repeat' first|simp(disch:=try exact yj) only[go_sem, *,cu,cT,dR] | (apply xs<;>intro _)<;>try omega | ((with_reducible refine b8 1 ?_);refine dw 45 1 aaV (by first | (simp only[go_sem, *];done)|rfl) (by kernel_rfl) (by kernel_rfl) ?_) | ((with_reducible refine b8 2 ?_);refine dw 45 2 aaW (by first | (simp only[go_sem, *];done)|rfl) (by kernel_rfl) (by kernel_rfl) ?_)|refine fun (_ _:List Nat)=>?_ | (first|refine bD func164 rfl ?_ ?_ ?_ ?_ |refine bD func165 rfl ?_ ?_ ?_ ?_ |refine bD func80 rfl ?_ ?_ ?_ ?_ |fail)<;>intros
     refine iK.h ⟨0,nd,0,0,[nd,x1,x2,x3,x4,x5],[0,y1,y2,y3,y4,y5],fo⟩ _ ?_
     repeat rw[PT.set_set]
     rfl
    ·rw[hr,show SS.ends ⟨21,nd,lv,0,[x0,x1,x2,x3,x4,x5],[y0,y1,y2,y3,y4,y5],fo⟩=⟨21,nd,lv-1,0,[x0,x1,x2,x3,x4,x5].set lv nd,[y0,y1,y2,y3,y4,y5].set lv 0,fo⟩ by unfold SS.ends;rw[if_neg hl0]] at hQ;clear hr
     repeat' first|simp(disch:=try exact yj) only[go_sem, *,cu,cT,dR,List.getElem?_set_ne,List.length_set] | (apply xs<;>intro _)<;>try omega | ((with_reducible refine b8 1 ?_);refine dw 45 1 aaV (by first | (simp only[go_sem, *];done)|rfl) (by kernel_rfl) (by kernel_rfl) ?_) | ((with_reducible refine b8 2 ?_);refine dw 45 2 aaW (by first | (simp only[go_sem, *];done)|rfl) (by kernel_rfl) (by kernel_rfl) ?_)|refine fun (_ _:List Nat)=>?_ | (first|refine bD func164 rfl ?_ ?_ ?_ ?_ |refine bD func165 rfl ?_ ?_ ?_ ?_ |refine bD func80 rfl ?_ ?_ ?_ ?_ |fail)<;>intros
     refine iK.h ⟨21,nd,lv-1,0,[x0,x1,x2,x3,x4,x5].set lv nd,[y0,y1,y2,y3,y4,y5].set lv 0,fo⟩ _ ?_
     repeat rw[PT.set_set]
     have h5:lv=1∨lv=2∨lv=3∨lv=4∨lv=5:=by omega
     rcases h5 with rfl|rfl|rfl|rfl|rfl<;>rfl
  ·have hnm:Jt E w lv=0:=if_neg fun q=>hT q.1;have hr:SS.nx E ⟨21,nd,lv,cn,[x0,x1,x2,x3,x4,x5],[y0,y1,y2,y3,y4,y5],fo⟩ w=SS.ends ⟨21,nd,lv,0,[x0,x1,x2,x3,x4,x5],[y0,y1,y2,y3,y4,y5],fo⟩:=by
    unfold SS.nx;rw[if_pos hnm]
   have b2:w=0∨(E.l.H.length:Int)<w:=by unfold ux at hT;omega
   clear hnm hgA hgE hT
   rcases b2 with rfl |b2
   ·by_cases hl0:lv=0
    ·subst hl0;rw[hr,show SS.ends ⟨21,nd,0,0,[x0,x1,x2,x3,x4,x5],[y0,y1,y2,y3,y4,y5],fo⟩=⟨0,nd,0,0,[nd,x1,x2,x3,x4,x5],[0,y1,y2,y3,y4,y5],fo⟩ from rfl] at hQ;clear hr
     repeat' first|simp(disch:=try exact yj) only[go_sem, *,cu,cT,dR] | (apply xs<;>intro _)<;>try omega | ((with_reducible refine b8 1 ?_);refine dw 45 1 aaV (by first | (simp only[go_sem, *];done)|rfl) (by kernel_rfl) (by kernel_rfl) ?_) | ((with_reducible refine b8 2 ?_);refine dw 45 2 aaW (by first | (simp only[go_sem, *];done)|rfl) (by kernel_rfl) (by kernel_rfl) ?_)|refine fun (_ _:List Nat)=>?_ | (first|refine bD func164 rfl ?_ ?_ ?_ ?_ |refine bD func165 rfl ?_ ?_ ?_ ?_ |refine bD func80 rfl ?_ ?_ ?_ ?_ |fail)<;>intros
     refine iK.h ⟨0,nd,0,0,[nd,x1,x2,x3,x4,x5],[0,y1,y2,y3,y4,y5],fo⟩ _ ?_
     repeat rw[PT.set_set]
     rfl
    ·rw[hr,show SS.ends ⟨21,nd,lv,0,[x0,x1,x2,x3,x4,x5],[y0,y1,y2,y3,y4,y5],fo⟩=⟨21,nd,lv-1,0,[x0,x1,x2,x3,x4,x5].set lv nd,[y0,y1,y2,y3,y4,y5].set lv 0,fo⟩ by unfold SS.ends;rw[if_neg hl0]] at hQ;clear hr
     repeat' first|simp(disch:=try exact yj) only[go_sem, *,cu,cT,dR,List.getElem?_set_ne,List.length_set] | (apply xs<;>intro _)<;>try omega | ((with_reducible refine b8 1 ?_);refine dw 45 1 aaV (by first | (simp only[go_sem, *];done)|rfl) (by kernel_rfl) (by kernel_rfl) ?_) | ((with_reducible refine b8 2 ?_);refine dw 45 2 aaW (by first | (simp only[go_sem, *];done)|rfl) (by kernel_rfl) (by kernel_rfl) ?_)|refine fun (_ _:List Nat)=>?_ | (first|refine bD func164 rfl ?_ ?_ ?_ ?_ |refine bD func165 rfl ?_ ?_ ?_ ?_ |refine bD func80 rfl ?_ ?_ ?_ ?_ |fail)<;>intros
     refine iK.h ⟨21,nd,lv-1,0,[x0,x1,x2,x3,x4,x5].set lv nd,[y0,y1,y2,y3,y4,y5].set lv 0,fo⟩ _ ?_
     repeat rw[PT.set_set]
     have h5:lv=1∨lv=2∨lv=3∨lv=4∨lv=5:=by omega
     rcases h5 with rfl|rfl|rfl|rfl|rfl<;>rfl
   ·have b1: ¬ w=0:=by omega
    by_cases hl0:lv=0
    ·subst hl0;rw[hr,show SS.ends ⟨21,nd,0,0,[x0,x1,x2,x3,x4,x5],[y0,y1,y2,y3,y4,y5],fo⟩=⟨0,nd,0,0,[nd,x1,x2,x3,x4,x5],[0,y1,y2,y3,y4,y5],fo⟩ from rfl] at hQ;clear hr
     repeat' first|simp(disch:=try exact yj) only[go_sem, *,cu,cT,dR] | (apply xs<;>intro _)<;>try omega | ((with_reducible refine b8 1 ?_);refine dw 45 1 aaV (by first | (simp only[go_sem, *];done)|rfl) (by kernel_rfl) (by kernel_rfl) ?_) | ((with_reducible refine b8 2 ?_);refine dw 45 2 aaW (by first | (simp only[go_sem, *];done)|rfl) (by kernel_rfl) (by kernel_rfl) ?_)|refine fun (_ _:List Nat)=>?_ | (first|refine bD func164 rfl ?_ ?_ ?_ ?_ |refine bD func165 rfl ?_ ?_ ?_ ?_ |refine bD func80 rfl ?_ ?_ ?_ ?_ |fail)<;>intros
     refine iK.h ⟨0,nd,0,0,[nd,x1,x2,x3,x4,x5],[0,y1,y2,y3,y4,y5],fo⟩ _ ?_
     repeat rw[PT.set_set]
     rfl
    ·rw[hr,show SS.ends ⟨21,nd,lv,0,[x0,x1,x2,x3,x4,x5],[y0,y1,y2,y3,y4,y5],fo⟩=⟨21,nd,lv-1,0,[x0,x1,x2,x3,x4,x5].set lv nd,[y0,y1,y2,y3,y4,y5].set lv 0,fo⟩ by unfold SS.ends;rw[if_neg hl0]] at hQ;clear hr
     repeat' first|simp(disch:=try exact yj) only[go_sem, *,cu,cT,dR,List.getElem?_set_ne,List.length_set] | (apply xs<;>intro _)<;>try omega | ((with_reducible refine b8 1 ?_);refine dw 45 1 aaV (by first | (simp only[go_sem, *];done)|rfl) (by kernel_rfl) (by kernel_rfl) ?_) | ((with_reducible refine b8 2 ?_);refine dw 45 2 aaW (by first | (simp only[go_sem, *];done)|rfl) (by kernel_rfl) (by kernel_rfl) ?_)|refine fun (_ _:List Nat)=>?_ | (first|refine bD func164 rfl ?_ ?_ ?_ ?_ |refine bD func165 rfl ?_ ?_ ?_ ?_ |refine bD func80 rfl ?_ ?_ ?_ ?_ |fail)<;>intros
     refine iK.h ⟨21,nd,lv-1,0,[x0,x1,x2,x3,x4,x5].set lv nd,[y0,y1,y2,y3,y4,y5].set lv 0,fo⟩ _ ?_
     repeat rw[PT.set_set]
     have h5:lv=1∨lv=2∨lv=3∨lv=4∨lv=5:=by omega
     rcases h5 with rfl|rfl|rfl|rfl|rfl<;>rfl
 ·simp only[kV,QK,List.map_cons,List.map_nil,List.cons_append,List.nil_append] at gr;have hnd:=h5 qi;have hC:=h6 rfl;have ew:=T.ok.num.wrd hC.1 (w:=0) qi;have Mb:=T.ok.num.vh hC.1;have hR:ta E.l cn<E.sz:=by omega
  have ld:=Xu T qJ hth hR;have hwu:=tq T.ua (ta E.l cn:Int);have ha:SS.ad E ⟨22,nd,lv,cn,[x0,x1,x2,x3,x4,x5],[y0,y1,y2,y3,y4,y5],fo⟩=ta E.l cn:=if_neg (show ¬(22:Int)=21 by decide);have hst:∀ w,SS.step E ⟨22,nd,lv,cn,[x0,x1,x2,x3,x4,x5],[y0,y1,y2,y3,y4,y5],fo⟩ key w=SS.lk ⟨22,nd,lv,cn,[x0,x1,x2,x3,x4,x5],[y0,y1,y2,y3,y4,y5],fo⟩ key w:=fun w=>(if_neg (show ¬(22:Int)=21 by decide)).trans (if_pos rfl);simp only[ha,hst];rw[if_neg (show ¬(22:Int)=0 by decide)];rw[Int.add_zero] at ew;clear ha hst Mb;obtain⟨⟨t1,t2⟩,t3⟩:=hC;generalize hna:ta E.l cn=ad at*;generalize vm a.W ad=w at*;clear h5 h6 hl0 h2 h3;refine ay (N:=23) func33 rfl rfl fun z hP hO hro hN hQ=>?_
  repeat' first|simp(disch:=try exact yj) only[go_sem, *,yD,og] | (apply xs<;>intro _)<;>try omega | ((with_reducible refine b8 1 ?_);refine dw 73 1 acO (by first | (simp only[go_sem, *];done)|rfl) (by kernel_rfl) (by kernel_rfl) ?_) | ((with_reducible refine b8 2 ?_);refine dw 73 2 acS (by first | (simp only[go_sem, *];done)|rfl) (by kernel_rfl) (by kernel_rfl) ?_)|refine fun (_ _:List Nat)=>?_ | (first|refine bD func166 rfl ?_ ?_ ?_ ?_ |fail)<;>intros
  refine jg (ld) ?_;rintro y h3 n3 ⟨d3,C3,rfl,N3,T3⟩;intro rd wr;have nr:r∉mA:=fun q=>by have:=QL q;omega
  have QM:r∉[((2:Nat),(0:Nat))]:=fun q=>by have:=List.mem_singleton.1 q;subst this;simp at hr
  have c3:=(N3.cc r nr).trans c;have e3:=N3.dd r QM;have g3:=T3.st.at c3;rw[e3] at g3;simp only[kV,QK,List.map_cons,List.map_nil,List.cons_append,List.nil_append] at g3;have FA:=T3.st.at ((N3.cc (70,0) qi).trans mV);rw[N3.dd (70,0) qi] at FA;have K3:=T3.fz.kept T3.st;have iK:Hid (∀ (s':SS) (h':PT aj),h'=h3.set (d r) (row (kV (d (70,0)) (d r) th key s'))→∃ d' C',Nz n d C (r::mA) [(2,0)] d' C' h' n3∧C' r=row (kV (d (70,0)) (d r) th key s')∧Tw E (a.ld th ad) b d' C' h' n3):=⟨fun s' h' e1=>by
   subst e1;have N4:Nz n3 d3 C3 [r] [] d3 (upd C3 r (row (kV (d (70,0)) (d r) th key s'))) (h3.set (d r) (row (kV (d (70,0)) (d r) th key s'))) n3:=Nz.set (t:=r.1) (b:=r.2) qJ c3 (T3.st.set r _ c3 e3) (by simp);exact⟨_,_,(N3.sub (by simp) (by simp)).trans (N4.sub (by simp) (by simp)),aq,T3.own N4 (fun q hq=>by have:=List.mem_singleton.1 hq;subst this;exact CG hr) (by simp)⟩⟩
  clear ld gr K nr QM N3 T3 c3 c hna hR M B Pk I EV mV;by_cases hlt:w<key
  ·rw[show SS.lk ⟨22,nd,lv,cn,[x0,x1,x2,x3,x4,x5],[y0,y1,y2,y3,y4,y5],fo⟩ key w=⟨21,cn,lv,cn,[x0,x1,x2,x3,x4,x5],[y0,y1,y2,y3,y4,y5],fo⟩ from if_pos hlt] at hQ
   repeat' first|simp(disch:=try exact yj) only[go_sem, *] | (apply xs<;>intro _)<;>try omega|refine fun (_ _:List Nat)=>?_ | (first|refine bD func80 rfl ?_ ?_ ?_ ?_ |fail)<;>intros
   refine iK.h ⟨21,cn,lv,cn,[x0,x1,x2,x3,x4,x5],[y0,y1,y2,y3,y4,y5],fo⟩ _ ?_
   repeat rw[PT.set_set]
   rfl
  ·have jk:SS.lk ⟨22,nd,lv,cn,[x0,x1,x2,x3,x4,x5],[y0,y1,y2,y3,y4,y5],fo⟩ key w=SS.ends ⟨22,nd,lv,cn,[x0,x1,x2,x3,x4,x5],[y0,y1,y2,y3,y4,y5],if w=key∧fo=0 then cn else fo⟩:=if_neg hlt;by_cases he:w=key
   ·by_cases hf:fo=0
    ·have hr:=jk;rw[if_pos ⟨he,hf⟩] at hr;clear jk;by_cases hl0:lv=0
     ·subst hl0;rw[hr,show SS.ends ⟨22,nd,0,cn,[x0,x1,x2,x3,x4,x5],[y0,y1,y2,y3,y4,y5],cn⟩=⟨0,nd,0,cn,[nd,x1,x2,x3,x4,x5],[cn,y1,y2,y3,y4,y5],cn⟩ from rfl] at hQ;clear hr
      repeat' first|simp(disch:=try exact yj) only[go_sem, *,cu,cT,dR] | (apply xs<;>intro _)<;>try omega | ((with_reducible refine b8 1 ?_);refine dw 45 1 aaV (by first | (simp only[go_sem, *];done)|rfl) (by kernel_rfl) (by kernel_rfl) ?_) | ((with_reducible refine b8 2 ?_);refine dw 45 2 aaW (by first | (simp only[go_sem, *];done)|rfl) (by kernel_rfl) (by kernel_rfl) ?_)|refine fun (_ _:List Nat)=>?_ | (first|refine bD func165 rfl ?_ ?_ ?_ ?_ |refine bD func80 rfl ?_ ?_ ?_ ?_ |fail)<;>intros
      refine iK.h ⟨0,nd,0,cn,[nd,x1,x2,x3,x4,x5],[cn,y1,y2,y3,y4,y5],cn⟩ _ ?_
      repeat rw[PT.set_set]
      rfl
     ·rw[hr,show SS.ends ⟨22,nd,lv,cn,[x0,x1,x2,x3,x4,x5],[y0,y1,y2,y3,y4,y5],cn⟩=⟨21,nd,lv-1,cn,[x0,x1,x2,x3,x4,x5].set lv nd,[y0,y1,y2,y3,y4,y5].set lv cn,cn⟩ by unfold SS.ends;rw[if_neg hl0]] at hQ;clear hr
      repeat' first|simp(disch:=try exact yj) only[go_sem, *,cu,cT,dR,List.getElem?_set_ne,List.length_set] | (apply xs<;>intro _)<;>try omega | ((with_reducible refine b8 1 ?_);refine dw 45 1 aaV (by first | (simp only[go_sem, *];done)|rfl) (by kernel_rfl) (by kernel_rfl) ?_) | ((with_reducible refine b8 2 ?_);refine dw 45 2 aaW (by first | (simp only[go_sem, *];done)|rfl) (by kernel_rfl) (by kernel_rfl) ?_)|refine fun (_ _:List Nat)=>?_ | (first|refine bD func165 rfl ?_ ?_ ?_ ?_ |refine bD func80 rfl ?_ ?_ ?_ ?_ |fail)<;>intros
      refine iK.h ⟨21,nd,lv-1,cn,[x0,x1,x2,x3,x4,x5].set lv nd,[y0,y1,y2,y3,y4,y5].set lv cn,cn⟩ _ ?_
      repeat rw[PT.set_set]
      have h5:lv=1∨lv=2∨lv=3∨lv=4∨lv=5:=by omega
      rcases h5 with rfl|rfl|rfl|rfl|rfl<;>rfl
    ·have hr:=jk;rw[if_neg fun q=>hf q.2] at hr;clear jk;by_cases hl0:lv=0
     ·subst hl0;rw[hr,show SS.ends ⟨22,nd,0,cn,[x0,x1,x2,x3,x4,x5],[y0,y1,y2,y3,y4,y5],fo⟩=⟨0,nd,0,cn,[nd,x1,x2,x3,x4,x5],[cn,y1,y2,y3,y4,y5],fo⟩ from rfl] at hQ;clear hr
      repeat' first|simp(disch:=try exact yj) only[go_sem, *,cu,cT,dR] | (apply xs<;>intro _)<;>try omega | ((with_reducible refine b8 1 ?_);refine dw 45 1 aaV (by first | (simp only[go_sem, *];done)|rfl) (by kernel_rfl) (by kernel_rfl) ?_) | ((with_reducible refine b8 2 ?_);refine dw 45 2 aaW (by first | (simp only[go_sem, *];done)|rfl) (by kernel_rfl) (by kernel_rfl) ?_)|refine fun (_ _:List Nat)=>?_ | (first|refine bD func165 rfl ?_ ?_ ?_ ?_ |refine bD func80 rfl ?_ ?_ ?_ ?_ |fail)<;>intros
      refine iK.h ⟨0,nd,0,cn,[nd,x1,x2,x3,x4,x5],[cn,y1,y2,y3,y4,y5],fo⟩ _ ?_
      repeat rw[PT.set_set]
      rfl
     ·rw[hr,show SS.ends ⟨22,nd,lv,cn,[x0,x1,x2,x3,x4,x5],[y0,y1,y2,y3,y4,y5],fo⟩=⟨21,nd,lv-1,cn,[x0,x1,x2,x3,x4,x5].set lv nd,[y0,y1,y2,y3,y4,y5].set lv cn,fo⟩ by unfold SS.ends;rw[if_neg hl0]] at hQ;clear hr
      repeat' first|simp(disch:=try exact yj) only[go_sem, *,cu,cT,dR,List.getElem?_set_ne,List.length_set] | (apply xs<;>intro _)<;>try omega | ((with_reducible refine b8 1 ?_);refine dw 45 1 aaV (by first | (simp only[go_sem, *];done)|rfl) (by kernel_rfl) (by kernel_rfl) ?_) | ((with_reducible refine b8 2 ?_);refine dw 45 2 aaW (by first | (simp only[go_sem, *];done)|rfl) (by kernel_rfl) (by kernel_rfl) ?_)|refine fun (_ _:List Nat)=>?_ | (first|refine bD func165 rfl ?_ ?_ ?_ ?_ |refine bD func80 rfl ?_ ?_ ?_ ?_ |fail)<;>intros
      refine iK.h ⟨21,nd,lv-1,cn,[x0,x1,x2,x3,x4,x5].set lv nd,[y0,y1,y2,y3,y4,y5].set lv cn,fo⟩ _ ?_
      repeat rw[PT.set_set]
      have h5:lv=1∨lv=2∨lv=3∨lv=4∨lv=5:=by omega
      rcases h5 with rfl|rfl|rfl|rfl|rfl<;>rfl
   ·have hr:=jk;rw[if_neg fun q=>he q.1] at hr;clear jk;by_cases hl0:lv=0
    ·subst hl0;rw[hr,show SS.ends ⟨22,nd,0,cn,[x0,x1,x2,x3,x4,x5],[y0,y1,y2,y3,y4,y5],fo⟩=⟨0,nd,0,cn,[nd,x1,x2,x3,x4,x5],[cn,y1,y2,y3,y4,y5],fo⟩ from rfl] at hQ;clear hr
     repeat' first|simp(disch:=try exact yj) only[go_sem, *,cu,cT,dR] | (apply xs<;>intro _)<;>try omega | ((with_reducible refine b8 1 ?_);refine dw 45 1 aaV (by first | (simp only[go_sem, *];done)|rfl) (by kernel_rfl) (by kernel_rfl) ?_) | ((with_reducible refine b8 2 ?_);refine dw 45 2 aaW (by first | (simp only[go_sem, *];done)|rfl) (by kernel_rfl) (by kernel_rfl) ?_)|refine fun (_ _:List Nat)=>?_ | (first|refine bD func165 rfl ?_ ?_ ?_ ?_ |refine bD func80 rfl ?_ ?_ ?_ ?_ |fail)<;>intros
     refine iK.h ⟨0,nd,0,cn,[nd,x1,x2,x3,x4,x5],[cn,y1,y2,y3,y4,y5],fo⟩ _ ?_
     repeat rw[PT.set_set]
     rfl
    ·rw[hr,show SS.ends ⟨22,nd,lv,cn,[x0,x1,x2,x3,x4,x5],[y0,y1,y2,y3,y4,y5],fo⟩=⟨21,nd,lv-1,cn,[x0,x1,x2,x3,x4,x5].set lv nd,[y0,y1,y2,y3,y4,y5].set lv cn,fo⟩ by unfold SS.ends;rw[if_neg hl0]] at hQ;clear hr
     repeat' first|simp(disch:=try exact yj) only[go_sem, *,cu,cT,dR,List.getElem?_set_ne,List.length_set] | (apply xs<;>intro _)<;>try omega | ((with_reducible refine b8 1 ?_);refine dw 45 1 aaV (by first | (simp only[go_sem, *];done)|rfl) (by kernel_rfl) (by kernel_rfl) ?_) | ((with_reducible refine b8 2 ?_);refine dw 45 2 aaW (by first | (simp only[go_sem, *];done)|rfl) (by kernel_rfl) (by kernel_rfl) ?_)|refine fun (_ _:List Nat)=>?_ | (first|refine bD func165 rfl ?_ ?_ ?_ ?_ |refine bD func80 rfl ?_ ?_ ?_ ?_ |fail)<;>intros
     refine iK.h ⟨21,nd,lv-1,cn,[x0,x1,x2,x3,x4,x5].set lv nd,[y0,y1,y2,y3,y4,y5].set lv cn,fo⟩ _ ?_
     repeat rw[PT.set_set]
     have h5:lv=1∨lv=2∨lv=3∨lv=4∨lv=5:=by omega
     rcases h5 with rfl|rfl|rfl|rfl|rfl<;>rfl
end
end Go.Proofs.YtofmbmclopgldaaGreat
namespace Go.Proofs.YtofmbmclopgldaaGreat
open Go.Am Go.Proofs.Tryz
theorem aaz{l:List Value}(h:l.length=14):∃ a b c d e f g i j k m n o p,l=[a,b,c,d,e,f,g,i,j,k,m,n,o,p]:=by
 match l,h with
 | [a,b,c,d,e,f,g,i,j,k,m,n,o,p],_=>exact⟨a,b,c,d,e,f,g,i,j,k,m,n,o,p,rfl⟩
theorem wI{kd dn:Int}{xs:List Int}(h:cq kd dn xs=true):xs.length<64:=by
 unfold cq at h;split at h
 ·simp only[Bool.and_eq_true,decide_eq_true_eq] at h;omega
 ·split at h
  ·simp only[Bool.and_eq_true,decide_eq_true_eq] at h;omega
  ·split at h
   ·simp only[Bool.and_eq_true,decide_eq_true_eq] at h;omega
   ·simp at h
section
variable {E:Ev} {a b:Sd} {d:Rl→Nat} {C:Rl→Option aj} {h:PT aj} {n:Nat}
theorem QN(T:Tw E a b d C h n):
  cE prog OB 79 [pt (d (70,0))] h n fun v h' n'=>∃ x0 x1 x2 x3 s x7 x8 x9 x10 x11 x12 x13 x14 x15,v = .agg ⟨[I6 x0,I6 x1,U8 x2,I6 x3,U8 E.kd,I6 E.dn,s,I6 x7,I6 x8,I6 x9,I6 x10,I6 x11,I6 x12,I6 x13,I6 x14,I6 x15]⟩∧aN .u64 h' s E.xs∧Kept h h'∧bQ h' n'∧n≤n':=by
 obtain⟨stk,tag,X,xk,R,rk,M,B,Pk,I,EV⟩:=T.pg;have mV:=B.base;have FA:=T.st.at mV;have n70:=T.st.lt mV;have K:=T.fz.kept T.st;obtain⟨ro,hlb,aaA⟩:=UE T.ok.look;have FD:=K _ _ hlb;have nlb:=T.st.wf.lt FD;obtain⟨x0,x1,x2,x3,x7,x8,x9,x10,x11,x12,x13,x14,x15,cv,rest,hS,ahk⟩:=T.ok.aru;have hr:rest.length=14:=by rw[hS] at aaA;simp at aaA;omega
 obtain⟨y0,y1,y2,y3,y4,y5,y6,y7,y8,y9,y10,y11,y12,y13,rfl⟩:=aaz hr;rw[hS] at FD;simp only[List.cons_append,List.nil_append] at FD;have hW:=T.st.wf;have hcx:=ahk.keep K;have RS:=wI T.ok.dom;obtain⟨ca,cc,rfl,-⟩:=ahk.len;generalize d (70,0)=q70 at*;clear hlb aaA hS hr;refine ay (N:=12) func79 rfl rfl fun z hP hO hro hN hQ=>?_
 repeat' first|simp(disch:=try exact yj) only[go_sem, *] | (apply xs<;>intro _)<;>try omega|refine fun (_ _:List Nat)=>?_ | (first|refine bD func134 rfl ?_ ?_ ?_ ?_ |fail)<;>intros
 generalize hh4:(((h.set n _).set (n+1) _).set (n+1+1) _).set (n+1+1) _=h4;have K4:Kept h h4:=by
  rw[←hh4]
  repeat refine Kept.set' hW qJ ?_
  exact Kept.refl _
 have W4:bQ h4 (n+1+1+1):=by
  rw[←hh4]
  (repeat refine bQ.set' qJ ?_);first|assumption|exact bQ.mono (by assumption) qJ
 have e4:h4.get (n+1+1)=row [I6 x0,I6 x1,U8 x2,I6 x3,U8 E.kd,I6 E.dn,.slice ca E.xs.length cc,I6 x7,I6 x8,I6 x9,I6 x10,I6 x11,I6 x12,I6 x13,I6 x14,I6 x15]:=by rw[←hh4];exact aI
 have e4b:h4.get (n+1)=row [.int .i64 0,.int .i64 0,.int .u8 0,.int .i64 0,.int .u8 0,.int .i64 0,.slice none 0 0,.int .i64 0,.int .i64 0,.int .i64 0,.int .i64 0,.int .i64 0,.int .i64 0,.int .i64 0,.int .i64 0,.int .i64 0]:=by rw[←hh4,az qJ,az qJ];exact aI
 have e4c:h4.get n=row [.int .i64 0,.int .i64 0,.int .u8 0,.int .i64 0,.int .u8 0,.int .i64 0,.slice none 0 0,.int .i64 0,.int .i64 0,.int .i64 0,.int .i64 0,.int .i64 0,.int .i64 0,.int .i64 0,.int .i64 0,.int .i64 0]:=by rw[←hh4,az qJ,az qJ,az qJ];exact aI
 clear hh4;refine jg ((clone (O:=OB) _ E.xs h4 _ W4 (hcx.keep K4) qJ).wf W4) ?_;rintro v h5 n5 ⟨⟨k5,hv⟩,hn5,W5⟩;obtain⟨va,vc,rfl,-⟩:=hv.cR.len;have e5:=k5 _ _ e4;have e5b:=k5 _ _ e4b;have e5c:=k5 _ _ e4c;have K5:=K4.trans k5;have hvi:=hv.cR
 repeat' first|simp(disch:=try exact yj) only[go_sem, *] | (apply xs<;>intro _)<;>try omega|refine fun (_ _:List Nat)=>?_
 refine⟨_,_,_,_,_,_,_,_,_,_,_,_,_,_,rfl,hv.far fun i B h1 h2 e=>by rw[az qJ,az qJ,az qJ];exact e,?_,?_,by omega⟩
 ·repeat refine Kept.set' hW qJ ?_
  exact K5
 ·(repeat refine bQ.set' qJ ?_);first|assumption|exact bQ.mono (by assumption) qJ
end
end Go.Proofs.YtofmbmclopgldaaGreat
