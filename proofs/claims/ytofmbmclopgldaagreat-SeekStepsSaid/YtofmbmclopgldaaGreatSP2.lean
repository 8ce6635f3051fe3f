/-
A part.
-/
import Derived.Test.YtofmbmclopgldaaGreatSQ6
set_option linter.all false
set_option maxRecDepth 100000
set_option maxHeartbeats 16000000
namespace Go.Proofs.YtofmbmclopgldaaGreat
open Go.Am Go.Proofs.Tryz
theorem za{b off j:Nat}(h:1≤j∧j≤3):TF ⟨b,off,none⟩ 3 j j (some 1) (some j) = .pure (.value (.slice (some ⟨b,if j=1 then off else off+3,none⟩) (j-1) (j-1))):=by
 obtain rfl|rfl|rfl:j=1∨j=2∨j=3:=by omega
 ·rfl
 ·rfl
 ·rfl
def Ma(n1:Nat):List Rl:=(List.range n1).map fun i=>(9999,i)
theorem Fz.vl{h1:PT aj}{n1:Nat}{d:Rl→Nat}{C:Rl→Option aj}(F:Fz h1 n1 d C)(A:List Rl):Fz h1 n1 d (vl (A++Ma n1) C):=by
 refine⟨F.dz,fun i=>?_,fun r B c e=>?_,F.wf⟩
 ·unfold Go.Proofs.YtofmbmclopgldaaGreat.vl;split
  ·exact F.cz i
  ·rename_i hn;have:n1≤i:=by
    rcases Nat.lt_or_ge i n1 with q |q
    ·exact absurd (List.mem_append_right A (List.mem_map.2 ⟨i,List.mem_range.2 q,rfl⟩)) hn
    ·exact q
   exact(bQ.fresh F.wf this).symm
 ·unfold Go.Proofs.YtofmbmclopgldaaGreat.vl at e;split at e
  ·exact F.lo r B c e
  ·simp at e
theorem wG{n1:Nat}{r:Rl}(h:r∈Ma n1):r.1=9999:=by
 obtain⟨i,-,rfl⟩:=List.mem_map.1 h;rfl
abbrev Jn(d:Rl→Nat):Value := .func (.func 221) ⟨[]⟩ ⟨[pt (d (82,0)),pt (d (83,0))]⟩
structure R_(E:Ev)(d:Rl→Nat)(C:Rl→Option aj)(th t key val st:Int)(i:Nat):Prop where
 vh:C (78,0)=row [pt (d rM),pt E.lb]
 p1:C (82,0)=row [pt (d (78,0))]
 p2:C (83,0)=row [I6 t]
 left:C (85,0)=row [U8 9,I6 0,U6 key,U8 10,I6 1,U6 val,U8 11,I6 4,U6 st]
 obj:C (86,0)=row [pt (d rM),I6 th,Jn d,.slice (some ⟨d (85,0),min (3*i) 6,none⟩) (3-i) (3-i)]
abbrev xW:List Rl:=[(82,0),(83,0),(85,0),(86,0)]
section
variable {E:Ev} {a b:Sd} {d:Rl→Nat} {C:Rl→Option aj} {h:PT aj} {n:Nat}
theorem Vd(T:Tw E a b d C h n){th t key val st:Int}(ht:0≤th∧th<64)(hT:ux E.l t)(hst:st=0∨st=1):
  cE prog OB 155 [pt (d (78,0)),I6 th,I6 t,.agg ⟨[U6 key,U6 val]⟩,U6 st] h n fun r h' n'=>∃ d' C',r=iU [pt (d' (86,0)),I6 0]∧Nz n d C xW xW d' C' h' n'∧R_ E d' C' th t key val st 0:=by
 obtain⟨stk,tag,X,xk,R,rk,M,B,Pk,I,EV⟩:=T.pg;have b78:=B.vh;have g78:=T.st.at b78;have n78:=T.st.lt b78;have K:=T.fz.kept T.st;have Wf:=T.fz.wf;have n1n:=T.le;have hl0:=T.ok.look;have hrl:=fun h' hk z f d ops r K m n=>@cw _ _ _ _ h' hl0 z f d ops r K m n hk;have Co:=fun h' hk z L f d ops r K m n lo rd wr fs=>@eT _ _ _ _ h' hl0 z L f d ops r K m n lo rd wr fs hk;have Ia:=fun h' lo hi hk hl=>@kP _ _ _ _ h' _ lo hi hl0 Wf hk hl;have hg1:yC E.l.H t=0:=if_pos hT;obtain⟨t1,t2⟩:=ht;clear hl0;refine ay (N:=56) func155 rfl rfl fun z hP hO hro hN hQ=>?_
 rcases hst with rfl|rfl
 all_goals
  repeat' first|simp(disch:=try exact yj) only[go_sem, *,cu,cT,Int.reduceTMod,Int.reduceTDiv] | (apply xs<;>intro _)<;>try omega | ((with_reducible refine b8 5 ?_);refine dw 56 5 afX (by first | (simp only[go_sem, *];done)|rfl) (by kernel_rfl) (by kernel_rfl) ?_) | ((with_reducible refine b8 11 ?_);refine dw 56 11 aeU (by first | (simp only[go_sem, *];done)|rfl) (by kernel_rfl) (by kernel_rfl) ?_)|refine fun (_ _:List Nat)=>?_ | (first|refine bD func131 rfl ?_ ?_ ?_ ?_ |refine bD func192 rfl ?_ ?_ ?_ ?_ |refine bD func234 rfl ?_ ?_ ?_ ?_ |refine bD func132 rfl ?_ ?_ ?_ ?_ |refine bD func133 rfl ?_ ?_ ?_ ?_ |refine bD func193 rfl ?_ ?_ ?_ ?_ |fail)<;>intros
  exact⟨_,_,by simp(disch:=first |decide|assumption|omega) only[rM,rW,rL,aq,au,aK,aL],⟨by omega,((((T.st.new (82,0) (.cells (PT.ofList .leaf 0 [pt (d (78,0))]) false) (Nat.le_refl _) (Nat.lt_succ_self _)).new (83,0) (.cells (PT.ofList .leaf 0 [I6 t]) false) (Nat.le_refl _) (Nat.lt_succ_self _)).junk (B:=row [U6 key,U6 val]) (Nat.le_refl _) (Nat.lt_succ_self _)).new (85,0) _ (Nat.le_refl _) (Nat.lt_succ_self _)).new (86,0) _ (Nat.le_refl _) (Nat.lt_succ_self _),fun h1 n1 q F=>(((F.new (a:=82) qi qJ _).new (a:=83) qi qJ _).new (a:=85) qi qJ _).new (a:=86) qi qJ _,fun r hr=>by
   simp only[List.mem_cons,List.not_mem_nil,or_false,not_or] at hr;rw[bB hr.2.2.2,bB hr.2.2.1,bB hr.2.1,bB hr.1],fun r hr=>by
   simp only[List.mem_cons,List.not_mem_nil,or_false,not_or] at hr;rw[bB hr.2.2.2,bB hr.2.2.1,bB hr.2.1,bB hr.1]⟩,⟨by simp(disch:=first |decide|assumption|omega) only[rM,rW,rL,aq,au,aK,aL];exact b78,by simp(disch:=first |decide|assumption|omega) only[rM,rW,rL,aq,au,aK,aL],by simp(disch:=first |decide|assumption|omega) only[rM,rW,rL,aq,au,aK,aL],by (simp(disch:=first |decide|assumption|omega) only[rM,rW,rL,aq,au,aK,aL])<;>rfl,by (simp(disch:=first |decide|assumption|omega) only[rM,rW,rL,aq,au,aK,aL])<;>rfl⟩⟩
theorem fnB(ok:tF E)(F:Fz E.h1 E.n1 d C){t w:Int}(hT:ux E.l t)(hw:0≤w∧w≤4)(p0:C (78,0)=row [pt (d rM),pt E.lb])(p1:C (82,0)=row [pt (d (78,0))])(p2:C (83,0)=row [I6 t])(hn:E.n1≤n)(h1:PT aj)(S:St h1 n d (vl ([(78,0),(82,0),(83,0)]++Ma E.n1) C)):
  cE prog OB 221 [I6 w,pt (d (82,0)),pt (d (83,0))] h1 n fun v h' n'=>∃ d' C',Nz n d (vl ([(78,0),(82,0),(83,0)]++Ma E.n1) C) [] [] d' C' h' n'∧v=I6 ((ta E.l t:Int)+w):=by
 have F1:=F.vl [(78,0),(82,0),(83,0)];have K:=F1.kept S;have hl0:=ok.look;have hrl:=fun h' hk z f d ops r K m n=>@cw _ _ _ _ h' hl0 z f d ops r K m n hk;have Co:=fun h' hk z L f d ops r K m n lo rd wr fs=>@eT _ _ _ _ h' hl0 z L f d ops r K m n lo rd wr fs hk;have Ia:=fun h' lo hi hk hl=>@kP _ _ _ _ h' _ lo hi hl0 F.wf hk hl;have q0:=S.at (r:=(78,0)) (by rw[pO (by simp)];exact p0);have q1:=S.at (r:=(82,0)) (by rw[pO (by simp)];exact p1);have q2:=S.at (r:=(83,0)) (by rw[pO (by simp)];exact p2);have hwr:=ok.num.wrd hT hw;obtain⟨w1,w2⟩:=hwr;clear hl0;refine ay (N:=18) func221 rfl rfl fun z hP hO hro hN hQ=>?_
 repeat' first|simp(disch:=try exact yj) only[go_sem, *,yD,og] | (apply xs<;>intro _)<;>try omega | ((with_reducible refine b8 1 ?_);refine dw 18 1 agj (by first | (simp only[go_sem, *];done)|rfl) (by kernel_rfl) (by kernel_rfl) ?_)
 exact⟨_,_,Nz.refl S⟩
theorem _root_.Go.Am.St.new2{h:PT aj}{n:Nat}{d:Rl→Nat}{C:Rl→Option aj}(S:St h n d C)(r:Rl){i m:Nat}{A:Option aj}(B:aj)(hi:n≤i)(hm:i<m):St ((h.set i A).set i (some B)) m (upd d r i) (upd C r (some B)):=by
 rw[PT.set_set];exact S.new r B hi hm
theorem HM(T:Tw E a b d C h n)(hka:a.k≤90000){th x:Int}{i:Nat}(ht:0≤th∧th<64)(hi:i<E.sz)(hx:0≤x∧x<18446744073709551616)(hp:i<E.p5∨E.p6+E.l.H.length≤i):
  cE prog OB 167 [pt (d rM),I6 th,I6 i,U6 x] h n fun v h' n'=>v=I6 0∧∃ d' C',Nz n d C mA [(2,0)] d' C' h' n'∧Tw E (a.st th i x) b d' C' h' n':=by
 have U1:i<a.W.length:=by rw[T.la];exact hi
 obtain⟨stk,tag,X,xk,R,rk,M,B,Pk,I,EV⟩:=T.pg;refine(P3 (x:=x) T.st M qJ ht U1).mono ?_;rintro v h' n' ⟨d',C',rfl,N,M2⟩;refine⟨rfl,d',C',N,T.ZK (a':=a.st th i x) N qi qi (T.pg.mem (by rw[←iJ U1] at M2;exact M2) (fun r h1 h2 h3 h4=>⟨N.dd r fun q=>by simp at q;exact h4 (by rw[q]),N.cc r fun q=>by simp at q;rcases q with q |q |q<;>simp[q] at h2 h3 h4⟩) (N.dd rM qi) (by simp[Sd.st]) (by simp[Sd.st]) fun j h1 h2=>by simp only[Sd.st];rw[List.getElem?_set_ne qJ])
   (by exact nY T.ua hx) (by simp[Sd.st];exact T.la)⟩
theorem Ve(T:Tw E a b d C h n){th t key val st:Int}(O:R_ E d C th t key val st 0)(hk:a.k≤90000)(ht:0≤th∧th<64)(hT:ux E.l t)(hvl:0≤key∧key<18446744073709551616)(hlo:ta E.l t+0<E.sz)(hp:ta E.l t+0<E.p5∨E.p6+E.l.H.length≤ta E.l t+0):
  cE prog OB 157 [pt (d (86,0))] h n fun r h' n'=>∃ d' C',r=iU [U8 9,.bool false]∧Nz n d C [(91,0),(86,0),(0,0),(1,0),(2,0)] [(91,0),(2,0)] d' C' h' n'∧Tw E (a.st th (ta E.l t+0) key) b d' C' h' n'∧R_ E d' C' th t key val st 1:=by
 obtain⟨o1,o2,o3,o4,o5⟩:=O;have g4:=T.st.at o4;have n4:=T.st.lt o4;have hs:=za (b:=d (85,0)) (off:=0) (j:=3) qi;rw[if_neg qi] at hs;replace o5:C (86,0)=row [pt (d rM),I6 th,Jn d,.slice (some ⟨d (85,0),0,none⟩) 3 3]:=o5;have g5:=T.st.at o5;have n5:=T.st.lt o5;refine ay (N:=55) func157 rfl rfl fun z hP hO hro hN hQ=>?_
 repeat' first|simp(disch:=try exact yj) only[go_sem, *] | (apply xs<;>intro _)<;>try omega
 obtain⟨d1,C1,N1,Jo,Jp,Jq⟩:∃ d1 C1,Nz n d C [(91,0),(86,0)] [(91,0)] d1 C1 (((h.set n (row [U8 0,I6 0,U6 0])).set n (row [U8 9,I6 0,U6 key])).set (d (86,0)) (row [pt (d rM),I6 th,Jn d,.slice (some ⟨d (85,0),3,none⟩) 2 2])) (n+1)∧d1 (91,0)=n∧C1 (91,0)=row [U8 9,I6 0,U6 key]∧C1 (86,0)=row [pt (d rM),I6 th,Jn d,.slice (some ⟨d (85,0),3,none⟩) 2 2]:=
  ⟨_,_,(Nz.new qi (Nat.le_refl _) (Nat.le_succ _) (T.st.new2 (A:=row [U8 0,I6 0,U6 0]) (91,0) _ (Nat.le_refl _) (Nat.lt_succ_self _))).trans (Nz.set qi ((au qi).trans o5) ((T.st.new2 (A:=row [U8 0,I6 0,U6 0]) (91,0) _ (Nat.le_refl _) (Nat.lt_succ_self _)).set (86,0) _ ((au qi).trans o5) (au qi))),aq,(au qi).trans aq,aq⟩
 have T1:=T.own N1 qi qi;have p0':C1 (78,0)=row [pt (d1 rM),pt E.lb]:=by rw[N1.cc (78,0) qi,N1.dd rM qi];exact o1
 have p1':C1 (82,0)=row [pt (d1 (78,0))]:=by rw[N1.cc (82,0) qi,N1.dd (78,0) qi];exact o2
 have p2':C1 (83,0)=row [I6 t]:=(N1.cc (83,0) qi).trans o3;have CU:=T1.st.at Jp;rw[Jo] at CU;have E1:=T1.st.at Jq;rw[N1.dd (86,0) qi] at E1;have e82:=N1.dd (82,0) qi;have e83:=N1.dd (83,0) qi;have fb:=fun h1=>fnB T.ok T1.fz (w:=0) hT qi p0' p1' p2' T1.le h1;rw[e82,e83] at fb;generalize ((h.set n (row [U8 0,I6 0,U6 0])).set n (row [U8 9,I6 0,U6 key])).set (d (86,0)) (row [pt (d rM),I6 th,Jn d,.slice (some ⟨d (85,0),3,none⟩) 2 2])=h1 at*;clear g4 g5 n4
 repeat' first|simp(disch:=try exact yj) only[go_sem, *] | (apply xs<;>intro _)<;>try omega | ((with_reducible refine b8 5 ?_);refine dw 55 5 abX (by first | (simp only[go_sem, *];done)|rfl) (by kernel_rfl) (by kernel_rfl) ?_)
 refine lN ([(78,0),(82,0),(83,0)]++Ma E.n1) T1.st fb (by simp) (by simp) hP hO hN.symm (by rw[hO];rfl) ?_;rintro v h2 n2 d2 C2' C2 N2-rfl rd' wr' hm;have hno:∀ i,i=86∨i=91→((i,0):Rl)∉[(78,0),(82,0),(83,0)]++Ma E.n1:=fun i hi q=>by
  rcases List.mem_append.1 q with q |q
  ·simp at q;omega
  ·have:=wG q;simp only at this;omega
 have Xo:=hm (d1 (91,0)) (T1.st.lt Jp) (T1.st.off Jp (hno _ qi));have Xp:=hm (d1 (86,0)) (T1.st.lt Jq) (T1.st.off Jq (hno _ qi));rw[Jo] at Xo;rw[N1.dd (86,0) qi] at Xp;obtain⟨⟨m1,m2⟩,m3,m4⟩:=Xo;obtain⟨⟨m5,m6⟩,m7,m8⟩:=Xp;have T2:=T1.own N2 qi qi;have E2:=(N2.cc (91,0) qi).trans Jp;have E3:=(N2.cc (86,0) qi).trans Jq;have CU:=T2.st.at E2;rw[N2.dd (91,0) qi,Jo] at CU;have E1:=T2.st.at E3;rw[N2.dd (86,0) qi,N1.dd (86,0) qi] at E1;have hq:=HM (x:=key) T2 qJ ht hlo hvl hp;rw[N2.dd rM qi,N1.dd rM qi] at hq;have hcast:((ta E.l t:Int)+0)=((ta E.l t+0:Nat):Int):=by omega
 rw[hcast];clear hm fb
 repeat' first|simp(disch:=try exact yj) only[go_sem, *] | (apply xs<;>intro _)<;>try omega
 refine jg (hq) ?_;rintro v h3 n3 ⟨rfl,d3,C3,N3,T3⟩;have Qq:=(N3.cc (91,0) qi).trans E2;have E4:=(N3.cc (86,0) qi).trans E3;have CU:=T3.st.at Qq;rw[N3.dd (91,0) qi,N2.dd (91,0) qi,Jo] at CU;have E1:=T3.st.at E4;rw[N3.dd (86,0) qi,N2.dd (86,0) qi,N1.dd (86,0) qi] at E1;intro RB RC;clear hq
 repeat' first|simp(disch:=try exact yj) only[go_sem, *] | (apply xs<;>intro _)<;>try omega | ((with_reducible refine b8 6 ?_);refine dw 55 6 abZ (by first | (simp only[go_sem, *];done)|rfl) (by kernel_rfl) (by kernel_rfl) ?_)
 have N:=(N1.app N2).app N3;have hM:=N.dd rM qi;have h82:=N.dd (82,0) qi;have h83:=N.dd (83,0) qi;have h85:=N.dd (85,0) qi;refine⟨d3,C3,rfl,N,T3,⟨?_,?_,(N.cc (83,0) qi).trans o3,(N.cc (85,0) qi).trans o4,?_⟩⟩
 ·rw[N.cc (78,0) qi,hM];exact o1
 ·rw[N.cc (82,0) qi,N.dd (78,0) qi];exact o2
 ·show C3 (86,0)=row [pt (d3 rM),I6 th,.func (.func 221) ⟨[]⟩ ⟨[pt (d3 (82,0)),pt (d3 (83,0))]⟩,.slice (some ⟨d3 (85,0),3,none⟩) 2 2]
  rw[hM,h82,h83,h85];exact E4
theorem Vf(T:Tw E a b d C h n){th t key val st:Int}(O:R_ E d C th t key val st 1)(hk:a.k≤90000)(ht:0≤th∧th<64)(hT:ux E.l t)(hvl:0≤val∧val<18446744073709551616)(hlo:ta E.l t+1<E.sz)(hp:ta E.l t+1<E.p5∨E.p6+E.l.H.length≤ta E.l t+1):
  cE prog OB 157 [pt (d (86,0))] h n fun r h' n'=>∃ d' C',r=iU [U8 10,.bool false]∧Nz n d C [(91,0),(86,0),(0,0),(1,0),(2,0)] [(91,0),(2,0)] d' C' h' n'∧Tw E (a.st th (ta E.l t+1) val) b d' C' h' n'∧R_ E d' C' th t key val st 2:=by
 obtain⟨o1,o2,o3,o4,o5⟩:=O;have g4:=T.st.at o4;have n4:=T.st.lt o4;have hs:=za (b:=d (85,0)) (off:=3) (j:=2) qi;rw[if_neg qi] at hs;replace o5:C (86,0)=row [pt (d rM),I6 th,Jn d,.slice (some ⟨d (85,0),3,none⟩) 2 2]:=o5;have g5:=T.st.at o5;have n5:=T.st.lt o5;refine ay (N:=55) func157 rfl rfl fun z hP hO hro hN hQ=>?_
 repeat' first|simp(disch:=try exact yj) only[go_sem, *] | (apply xs<;>intro _)<;>try omega
 obtain⟨d1,C1,N1,Jo,Jp,Jq⟩:∃ d1 C1,Nz n d C [(91,0),(86,0)] [(91,0)] d1 C1 (((h.set n (row [U8 0,I6 0,U6 0])).set n (row [U8 10,I6 1,U6 val])).set (d (86,0)) (row [pt (d rM),I6 th,Jn d,.slice (some ⟨d (85,0),6,none⟩) 1 1])) (n+1)∧d1 (91,0)=n∧C1 (91,0)=row [U8 10,I6 1,U6 val]∧C1 (86,0)=row [pt (d rM),I6 th,Jn d,.slice (some ⟨d (85,0),6,none⟩) 1 1]:=
  ⟨_,_,(Nz.new qi (Nat.le_refl _) (Nat.le_succ _) (T.st.new2 (A:=row [U8 0,I6 0,U6 0]) (91,0) _ (Nat.le_refl _) (Nat.lt_succ_self _))).trans (Nz.set qi ((au qi).trans o5) ((T.st.new2 (A:=row [U8 0,I6 0,U6 0]) (91,0) _ (Nat.le_refl _) (Nat.lt_succ_self _)).set (86,0) _ ((au qi).trans o5) (au qi))),aq,(au qi).trans aq,aq⟩
 have T1:=T.own N1 qi qi;have p0':C1 (78,0)=row [pt (d1 rM),pt E.lb]:=by rw[N1.cc (78,0) qi,N1.dd rM qi];exact o1
 have p1':C1 (82,0)=row [pt (d1 (78,0))]:=by rw[N1.cc (82,0) qi,N1.dd (78,0) qi];exact o2
 have p2':C1 (83,0)=row [I6 t]:=(N1.cc (83,0) qi).trans o3;have CU:=T1.st.at Jp;rw[Jo] at CU;have E1:=T1.st.at Jq;rw[N1.dd (86,0) qi] at E1;have e82:=N1.dd (82,0) qi;have e83:=N1.dd (83,0) qi;have fb:=fun h1=>fnB T.ok T1.fz (w:=1) hT qi p0' p1' p2' T1.le h1;rw[e82,e83] at fb;generalize ((h.set n (row [U8 0,I6 0,U6 0])).set n (row [U8 10,I6 1,U6 val])).set (d (86,0)) (row [pt (d rM),I6 th,Jn d,.slice (some ⟨d (85,0),6,none⟩) 1 1])=h1 at*;clear g4 g5 n4
 repeat' first|simp(disch:=try exact yj) only[go_sem, *] | (apply xs<;>intro _)<;>try omega | ((with_reducible refine b8 5 ?_);refine dw 55 5 abX (by first | (simp only[go_sem, *];done)|rfl) (by kernel_rfl) (by kernel_rfl) ?_)
 refine lN ([(78,0),(82,0),(83,0)]++Ma E.n1) T1.st fb (by simp) (by simp) hP hO hN.symm (by rw[hO];rfl) ?_;rintro v h2 n2 d2 C2' C2 N2-rfl rd' wr' hm;have hno:∀ i,i=86∨i=91→((i,0):Rl)∉[(78,0),(82,0),(83,0)]++Ma E.n1:=fun i hi q=>by
  rcases List.mem_append.1 q with q |q
  ·simp at q;omega
  ·have:=wG q;simp only at this;omega
 have Xo:=hm (d1 (91,0)) (T1.st.lt Jp) (T1.st.off Jp (hno _ qi));have Xp:=hm (d1 (86,0)) (T1.st.lt Jq) (T1.st.off Jq (hno _ qi));rw[Jo] at Xo;rw[N1.dd (86,0) qi] at Xp;obtain⟨⟨m1,m2⟩,m3,m4⟩:=Xo;obtain⟨⟨m5,m6⟩,m7,m8⟩:=Xp;have T2:=T1.own N2 qi qi;have E2:=(N2.cc (91,0) qi).trans Jp;have E3:=(N2.cc (86,0) qi).trans Jq;have CU:=T2.st.at E2;rw[N2.dd (91,0) qi,Jo] at CU;have E1:=T2.st.at E3;rw[N2.dd (86,0) qi,N1.dd (86,0) qi] at E1;have hq:=HM (x:=val) T2 qJ ht hlo hvl hp;rw[N2.dd rM qi,N1.dd rM qi] at hq;have hcast:((ta E.l t:Int)+1)=((ta E.l t+1:Nat):Int):=by omega
 rw[hcast];clear hm fb
 repeat' first|simp(disch:=try exact yj) only[go_sem, *] | (apply xs<;>intro _)<;>try omega
 refine jg (hq) ?_;rintro v h3 n3 ⟨rfl,d3,C3,N3,T3⟩;have Qq:=(N3.cc (91,0) qi).trans E2;have E4:=(N3.cc (86,0) qi).trans E3;have CU:=T3.st.at Qq;rw[N3.dd (91,0) qi,N2.dd (91,0) qi,Jo] at CU;have E1:=T3.st.at E4;rw[N3.dd (86,0) qi,N2.dd (86,0) qi,N1.dd (86,0) qi] at E1;intro RB RC;clear hq
 repeat' first|simp(disch:=try exact yj) only[go_sem, *] | (apply xs<;>intro _)<;>try omega | ((with_reducible refine b8 6 ?_);refine dw 55 6 abZ (by first | (simp only[go_sem, *];done)|rfl) (by kernel_rfl) (by kernel_rfl) ?_)
 have N:=(N1.app N2).app N3;have hM:=N.dd rM qi;have h82:=N.dd (82,0) qi;have h83:=N.dd (83,0) qi;have h85:=N.dd (85,0) qi;refine⟨d3,C3,rfl,N,T3,⟨?_,?_,(N.cc (83,0) qi).trans o3,(N.cc (85,0) qi).trans o4,?_⟩⟩
 ·rw[N.cc (78,0) qi,hM];exact o1
 ·rw[N.cc (82,0) qi,N.dd (78,0) qi];exact o2
 ·show C3 (86,0)=row [pt (d3 rM),I6 th,.func (.func 221) ⟨[]⟩ ⟨[pt (d3 (82,0)),pt (d3 (83,0))]⟩,.slice (some ⟨d3 (85,0),6,none⟩) 1 1]
  rw[hM,h82,h83,h85];exact E4
theorem Vg(T:Tw E a b d C h n){th t key val st:Int}(O:R_ E d C th t key val st 2)(hk:a.k≤90000)(ht:0≤th∧th<64)(hT:ux E.l t)(hvl:0≤st∧st<18446744073709551616)(hlo:ta E.l t+4<E.sz)(hp:ta E.l t+4<E.p5∨E.p6+E.l.H.length≤ta E.l t+4):
  cE prog OB 157 [pt (d (86,0))] h n fun r h' n'=>∃ d' C',r=iU [U8 11,.bool true]∧Nz n d C [(91,0),(86,0),(0,0),(1,0),(2,0)] [(91,0),(2,0)] d' C' h' n'∧Tw E (a.st th (ta E.l t+4) st) b d' C' h' n'∧R_ E d' C' th t key val st 3:=by
 obtain⟨o1,o2,o3,o4,o5⟩:=O;have g4:=T.st.at o4;have n4:=T.st.lt o4;have hs:=za (b:=d (85,0)) (off:=6) (j:=1) qi;rw[if_pos qi] at hs;replace o5:C (86,0)=row [pt (d rM),I6 th,Jn d,.slice (some ⟨d (85,0),6,none⟩) 1 1]:=o5;have g5:=T.st.at o5;have n5:=T.st.lt o5;refine ay (N:=55) func157 rfl rfl fun z hP hO hro hN hQ=>?_
 repeat' first|simp(disch:=try exact yj) only[go_sem, *] | (apply xs<;>intro _)<;>try omega
 obtain⟨d1,C1,N1,Jo,Jp,Jq⟩:∃ d1 C1,Nz n d C [(91,0),(86,0)] [(91,0)] d1 C1 (((h.set n (row [U8 0,I6 0,U6 0])).set n (row [U8 11,I6 4,U6 st])).set (d (86,0)) (row [pt (d rM),I6 th,Jn d,.slice (some ⟨d (85,0),6,none⟩) 0 0])) (n+1)∧d1 (91,0)=n∧C1 (91,0)=row [U8 11,I6 4,U6 st]∧C1 (86,0)=row [pt (d rM),I6 th,Jn d,.slice (some ⟨d (85,0),6,none⟩) 0 0]:=
  ⟨_,_,(Nz.new qi (Nat.le_refl _) (Nat.le_succ _) (T.st.new2 (A:=row [U8 0,I6 0,U6 0]) (91,0) _ (Nat.le_refl _) (Nat.lt_succ_self _))).trans (Nz.set qi ((au qi).trans o5) ((T.st.new2 (A:=row [U8 0,I6 0,U6 0]) (91,0) _ (Nat.le_refl _) (Nat.lt_succ_self _)).set (86,0) _ ((au qi).trans o5) (au qi))),aq,(au qi).trans aq,aq⟩
 have T1:=T.own N1 qi qi;have p0':C1 (78,0)=row [pt (d1 rM),pt E.lb]:=by rw[N1.cc (78,0) qi,N1.dd rM qi];exact o1
 have p1':C1 (82,0)=row [pt (d1 (78,0))]:=by rw[N1.cc (82,0) qi,N1.dd (78,0) qi];exact o2
 have p2':C1 (83,0)=row [I6 t]:=(N1.cc (83,0) qi).trans o3;have CU:=T1.st.at Jp;rw[Jo] at CU;have E1:=T1.st.at Jq;rw[N1.dd (86,0) qi] at E1;have e82:=N1.dd (82,0) qi;have e83:=N1.dd (83,0) qi;have fb:=fun h1=>fnB T.ok T1.fz (w:=4) hT qi p0' p1' p2' T1.le h1;rw[e82,e83] at fb;generalize ((h.set n (row [U8 0,I6 0,U6 0])).set n (row [U8 11,I6 4,U6 st])).set (d (86,0)) (row [pt (d rM),I6 th,Jn d,.slice (some ⟨d (85,0),6,none⟩) 0 0])=h1 at*;clear g4 g5 n4
 repeat' first|simp(disch:=try exact yj) only[go_sem, *] | (apply xs<;>intro _)<;>try omega | ((with_reducible refine b8 5 ?_);refine dw 55 5 abX (by first | (simp only[go_sem, *];done)|rfl) (by kernel_rfl) (by kernel_rfl) ?_)
 refine lN ([(78,0),(82,0),(83,0)]++Ma E.n1) T1.st fb (by simp) (by simp) hP hO hN.symm (by rw[hO];rfl) ?_;rintro v h2 n2 d2 C2' C2 N2-rfl rd' wr' hm;have hno:∀ i,i=86∨i=91→((i,0):Rl)∉[(78,0),(82,0),(83,0)]++Ma E.n1:=fun i hi q=>by
  rcases List.mem_append.1 q with q |q
  ·simp at q;omega
  ·have:=wG q;simp only at this;omega
 have Xo:=hm (d1 (91,0)) (T1.st.lt Jp) (T1.st.off Jp (hno _ qi));have Xp:=hm (d1 (86,0)) (T1.st.lt Jq) (T1.st.off Jq (hno _ qi));rw[Jo] at Xo;rw[N1.dd (86,0) qi] at Xp;obtain⟨⟨m1,m2⟩,m3,m4⟩:=Xo;obtain⟨⟨m5,m6⟩,m7,m8⟩:=Xp;have T2:=T1.own N2 qi qi;have E2:=(N2.cc (91,0) qi).trans Jp;have E3:=(N2.cc (86,0) qi).trans Jq;have CU:=T2.st.at E2;rw[N2.dd (91,0) qi,Jo] at CU;have E1:=T2.st.at E3;rw[N2.dd (86,0) qi,N1.dd (86,0) qi] at E1;have hq:=HM (x:=st) T2 qJ ht hlo hvl hp;rw[N2.dd rM qi,N1.dd rM qi] at hq;have hcast:((ta E.l t:Int)+4)=((ta E.l t+4:Nat):Int):=by omega
 rw[hcast];clear hm fb
 repeat' first|simp(disch:=try exact yj) only[go_sem, *] | (apply xs<;>intro _)<;>try omega
 refine jg (hq) ?_;rintro v h3 n3 ⟨rfl,d3,C3,N3,T3⟩;have Qq:=(N3.cc (91,0) qi).trans E2;have E4:=(N3.cc (86,0) qi).trans E3;have CU:=T3.st.at Qq;rw[N3.dd (91,0) qi,N2.dd (91,0) qi,Jo] at CU;have E1:=T3.st.at E4;rw[N3.dd (86,0) qi,N2.dd (86,0) qi,N1.dd (86,0) qi] at E1;intro RB RC;clear hq
 repeat' first|simp(disch:=try exact yj) only[go_sem, *] | (apply xs<;>intro _)<;>try omega | ((with_reducible refine b8 6 ?_);refine dw 55 6 abZ (by first | (simp only[go_sem, *];done)|rfl) (by kernel_rfl) (by kernel_rfl) ?_)
 have N:=(N1.app N2).app N3;have hM:=N.dd rM qi;have h82:=N.dd (82,0) qi;have h83:=N.dd (83,0) qi;have h85:=N.dd (85,0) qi;refine⟨d3,C3,N,T3,⟨?_,?_,(N.cc (83,0) qi).trans o3,(N.cc (85,0) qi).trans o4,?_⟩⟩
 ·rw[N.cc (78,0) qi,hM];exact o1
 ·rw[N.cc (82,0) qi,N.dd (78,0) qi];exact o2
 ·show C3 (86,0)=row [pt (d3 rM),I6 th,.func (.func 221) ⟨[]⟩ ⟨[pt (d3 (82,0)),pt (d3 (83,0))]⟩,.slice (some ⟨d3 (85,0),6,none⟩) 0 0]
  rw[hM,h82,h83,h85];exact E4
end
end Go.Proofs.YtofmbmclopgldaaGreat
namespace Go.Proofs.YtofmbmclopgldaaGreat
open Go.Am Go.Proofs.Tryz
theorem Cy{b off j:Nat}(h:1≤j∧j≤3):TF ⟨b,off,none⟩ 1 j j (some 1) (some j) = .pure (.value (.slice (some ⟨b,if j=1 then off else off+1,none⟩) (j-1) (j-1))):=by
 obtain rfl|rfl|rfl:j=1∨j=2∨j=3:=by omega
 ·rfl
 ·rfl
 ·rfl
structure Sb(E:Ev)(d:Rl→Nat)(C:Rl→Option aj)(th t key val st:Int)(i:Nat):Prop where
 obj:C (121,0)=row [pt (d (108,0)),I6 th,I6 0,.slice (some ⟨d (122,0),min i 2,none⟩) (3-i) (3-i),.slice (some ⟨d (123,0),min i 2,none⟩) (3-i) (3-i),.slice (some ⟨d (124,0),min i 2,none⟩) (3-i) (3-i)]
 tN:C (122,0)=row [I6 (ta E.l t),I6 ((ta E.l t:Int)+1),I6 ((ta E.l t:Int)+4)]
 val:C (123,0)=row [U6 key,U6 val,U6 st]
 pcs:C (124,0)=row [U8 9,U8 10,U8 11]
abbrev yW:List Rl:=[(121,0),(122,0),(123,0),(124,0)]
section
variable {E:Ev} {a b:Sd} {d:Rl→Nat} {C:Rl→Option aj} {h:PT aj} {n:Nat}
theorem Vh(T:Tw E a b d C h n){th t key val st:Int}(ht:0≤th∧th<64)(hT:ux E.l t)(hst:st=0∨st=1):
  cE prog OB 156 [pt (d (108,0)),I6 th,I6 t,.agg ⟨[U6 key,U6 val]⟩,U6 st] h n fun r h' n'=>∃ d' C',r=iU [pt (d' (121,0)),I6 0]∧Nz n d C yW yW d' C' h' n'∧Sb E d' C' th t key val st 0:=by
 have b78:=T.rf.vh;have g78:=T.st.at b78;have n78:=T.st.lt b78;have K:=T.fy.kept T.st;have Wf:=T.fy.wf;have n1n:=T.lz;have hl0:=T.ok.vo;have hrl:=fun h' hk z f d ops r K m n=>@cw _ _ _ _ h' hl0 z f d ops r K m n hk;have Co:=fun h' hk z L f d ops r K m n lo rd wr fs=>@eT _ _ _ _ h' hl0 z L f d ops r K m n lo rd wr fs hk;have Lz:=T.ok.wd t 0;have hw0:=T.ok.num.wrd hT (w:=0) qi;have hw2:yR E.Wt t 0=iU [I6 (ta E.l t),I6 0]:=by rw[←Lz];unfold og;rw[hw0.1,hw0.2,Int.add_zero]
 have Mb:=T.ok.num.vh hT;have hsz:=T.ok.num.RY;have hp8:=T.ok.num.p8;have hp7:=T.ok.num.p7;have hVv:=T.ok.num.V1;have hw1:IntKind.i64.wrap ((ta E.l t:Int)+1)=(ta E.l t:Int)+1:=wrap_i64 qJ qJ;have hw4:IntKind.i64.wrap ((ta E.l t:Int)+4)=(ta E.l t:Int)+4:=wrap_i64 qJ qJ;obtain⟨t1,t2⟩:=ht;clear hl0 Lz Mb hsz hp8 hp7 hVv;refine ay (N:=51) func156 rfl rfl fun z hP hO hro hN hQ=>?_
 rcases hst with rfl|rfl
 all_goals
  repeat' first|simp(disch:=try exact yj) only[go_sem, *,ep,hw2,hw1,hw4,Int.reduceTMod,Int.reduceTDiv] | (apply xs<;>intro _)<;>try omega|refine fun (_ _:List Nat)=>?_ | (first|refine bD func222 rfl ?_ ?_ ?_ ?_ |refine bD func245 rfl ?_ ?_ ?_ ?_ |refine bD func246 rfl ?_ ?_ ?_ ?_ |refine bD func247 rfl ?_ ?_ ?_ ?_ |refine bD func248 rfl ?_ ?_ ?_ ?_ |refine bD func254 rfl ?_ ?_ ?_ ?_ |refine bD func82 rfl ?_ ?_ ?_ ?_ |fail)<;>intros
  exact⟨_,_,by simp(disch:=first |decide|assumption|omega) only[rM,rW,rL,aq,au,aK,aL],⟨by omega,((((T.st.junk (B:=row [U6 key,U6 val]) (Nat.le_refl _) (Nat.lt_succ_self _)).new (122,0) _ (Nat.le_refl _) (Nat.lt_succ_self _)).new (123,0) _ (Nat.le_refl _) (Nat.lt_succ_self _)).new (124,0) _ (Nat.le_refl _) (Nat.lt_succ_self _)).new (121,0) _ (Nat.le_refl _) (Nat.lt_succ_self _),fun h1 n1 q F=>(((F.new (a:=122) qi qJ _).new (a:=123) qi qJ _).new (a:=124) qi qJ _).new (a:=121) qi qJ _,fun r hr=>by
   simp only[List.mem_cons,List.not_mem_nil,or_false,not_or] at hr;rw[bB hr.1,bB hr.2.2.2,bB hr.2.2.1,bB hr.2.1],fun r hr=>by
   simp only[List.mem_cons,List.not_mem_nil,or_false,not_or] at hr;rw[bB hr.1,bB hr.2.2.2,bB hr.2.2.1,bB hr.2.1]⟩,⟨by simp(disch:=first |decide|assumption|omega) only[rM,rW,rL,aq,au,aK,aL];rfl,by simp(disch:=first |decide|assumption|omega) only[rM,rW,rL,aq,au,aK,aL],by simp(disch:=first |decide|assumption|omega) only[rM,rW,rL,aq,au,aK,aL],by simp(disch:=first |decide|assumption|omega) only[rM,rW,rL,aq,au,aK,aL]⟩⟩
theorem Vi(T:Tw E a b d C h n){th t key val st:Int}(O:Sb E d C th t key val st 0)(hk:b.k≤90000)(ht:0≤th∧th<64)(hvl:0≤key∧key<18446744073709551616)(hlo:ta E.l t+0<E.sz):
  cE prog OB 158 [pt (d (121,0))] h n fun r h' n'=>∃ d' C',r=iU [U8 9,.bool false]∧Nz n d C ((121,0)::mB) [(103,0)] d' C' h' n'∧Tw E a (b.st th (ta E.l t+0) key) d' C' h' n'∧Sb E d' C' th t key val st 1:=by
 obtain⟨o1,o2,o3,o4⟩:=O;have hs:=fun x=>Cy (b:=x) (off:=0) (j:=3) qi;replace o1:C (121,0)=row [pt (d (108,0)),I6 th,I6 0,.slice (some ⟨d (122,0),0,none⟩) 3 3,.slice (some ⟨d (123,0),0,none⟩) 3 3,.slice (some ⟨d (124,0),0,none⟩) 3 3]:=o1;have o0:=T.rf.vh;have g0:=T.st.at o0;have g1:=T.st.at o1;have g2:=T.st.at o2;have g3:=T.st.at o3;have g4:=T.st.at o4;have n0:=T.st.lt o0;have n1:=T.st.lt o1;have n2:=T.st.lt o2;have n3:=T.st.lt o3;have n4:=T.st.lt o4;have hib:ta E.l t+0<b.W.length:=by rw[T.lb];exact hlo
 have hq:=wD (x:=key) oQ T.st T.rf.mem qJ ht hib;rw[show ((ta E.l t+0:Nat):Int)=(ta E.l t:Int) by omega] at hq;refine ay (N:=65) func158 rfl rfl fun z hP hO hro hN hQ=>?_
 repeat' first|simp(disch:=try exact yj) only[go_sem, *] | (apply xs<;>intro _)<;>try omega | ((with_reducible refine b8 4 ?_);refine dw 65 4 ab0 (by first | (simp only[go_sem, *];done)|rfl) (by kernel_rfl) (by kernel_rfl) ?_)|refine fun (_ _:List Nat)=>?_ | (first|refine bD func223 rfl ?_ ?_ ?_ ?_ |fail)<;>intros
 refine jg (hq) ?_;rintro v h2 n2 ⟨d2,C2,rfl,N2,M2⟩;rw[←iJ hib] at M2;have T2:=T.atB (b':=b.st th (ta E.l t+0) key) N2 qi qi (T.rf.acc N2 M2) (nY T.ub hvl) (by simp[Sd.st];exact T.lb);have q1:=(N2.cc (121,0) qi).trans o1;have k1:=T2.st.at q1;rw[N2.dd (121,0) qi] at k1;clear g0 g1 g2 g3 g4 hq M2
 repeat' first|simp(disch:=try exact yj) only[go_sem, *] | (apply xs<;>intro _)<;>try omega | ((with_reducible refine b8 5 ?_);refine dw 65 5 ab1 (by first | (simp only[go_sem, *];done)|rfl) (by kernel_rfl) (by kernel_rfl) ?_) | ((with_reducible refine b8 6 ?_);refine dw 65 6 ab2 (by first | (simp only[go_sem, *];done)|rfl) (by kernel_rfl) (by kernel_rfl) ?_)|refine fun (_ _:List Nat)=>?_
 have lP:=N2.dd (121,0) qi;have key:∀ L1 L2 L3:List Value,∃ C3,Nz n2 d2 C2 [(121,0)] [] d2 C3 (((h2.set (d (121,0)) (row L1)).set (d (121,0)) (row L2)).set (d (121,0)) (row L3)) n2∧C3 (121,0)=row L3:=fun A1 A2 A3=>⟨_,Nz.set qi q1 (((T2.st.set (121,0) _ q1 lP).re lP).re lP),aq⟩;obtain⟨C3,N3,q3⟩:=key [pt (d (108,0)),I6 th,I6 0,.slice (some ⟨d (122,0),1,none⟩) 2 2,.slice (some ⟨d (123,0),0,none⟩) 3 3,.slice (some ⟨d (124,0),0,none⟩) 3 3] [pt (d (108,0)),I6 th,I6 0,.slice (some ⟨d (122,0),1,none⟩) 2 2,.slice (some ⟨d (123,0),1,none⟩) 2 2,.slice (some ⟨d (124,0),0,none⟩) 3 3] [pt (d (108,0)),I6 th,I6 0,.slice (some ⟨d (122,0),1,none⟩) 2 2,.slice (some ⟨d (123,0),1,none⟩) 2 2,.slice (some ⟨d (124,0),1,none⟩) 2 2];have N:=(N2.sub (X':=(121,0)::mB) (Y':=[(103,0)]) (by simp) (by simp)).trans (N3.sub (by simp) (by simp));refine⟨d2,C3,rfl,N,T2.own N3 qi qi,⟨?_,?_,?_,?_⟩⟩
 ·rw[N.dd (108,0) qi,N.dd (122,0) qi,N.dd (123,0) qi,N.dd (124,0) qi];exact q3
 ·exact(N.cc (122,0) qi).trans o2
 ·exact(N.cc (123,0) qi).trans o3
 ·exact(N.cc (124,0) qi).trans o4
theorem Vj(T:Tw E a b d C h n){th t key val st:Int}(O:Sb E d C th t key val st 1)(hk:b.k≤90000)(ht:0≤th∧th<64)(hvl:0≤val∧val<18446744073709551616)(hlo:ta E.l t+1<E.sz):
  cE prog OB 158 [pt (d (121,0))] h n fun r h' n'=>∃ d' C',r=iU [U8 10,.bool false]∧Nz n d C ((121,0)::mB) [(103,0)] d' C' h' n'∧Tw E a (b.st th (ta E.l t+1) val) d' C' h' n'∧Sb E d' C' th t key val st 2:=by
 obtain⟨o1,o2,o3,o4⟩:=O;have hs:=fun x=>Cy (b:=x) (off:=1) (j:=2) qi;replace o1:C (121,0)=row [pt (d (108,0)),I6 th,I6 0,.slice (some ⟨d (122,0),1,none⟩) 2 2,.slice (some ⟨d (123,0),1,none⟩) 2 2,.slice (some ⟨d (124,0),1,none⟩) 2 2]:=o1;have o0:=T.rf.vh;have g0:=T.st.at o0;have g1:=T.st.at o1;have g2:=T.st.at o2;have g3:=T.st.at o3;have g4:=T.st.at o4;have n0:=T.st.lt o0;have n1:=T.st.lt o1;have n2:=T.st.lt o2;have n3:=T.st.lt o3;have n4:=T.st.lt o4;have hib:ta E.l t+1<b.W.length:=by rw[T.lb];exact hlo
 have hq:=wD (x:=val) oQ T.st T.rf.mem qJ ht hib;rw[show ((ta E.l t+1:Nat):Int)=(ta E.l t:Int)+1 by omega] at hq;refine ay (N:=65) func158 rfl rfl fun z hP hO hro hN hQ=>?_
 repeat' first|simp(disch:=try exact yj) only[go_sem, *] | (apply xs<;>intro _)<;>try omega | ((with_reducible refine b8 4 ?_);refine dw 65 4 ab0 (by first | (simp only[go_sem, *];done)|rfl) (by kernel_rfl) (by kernel_rfl) ?_)|refine fun (_ _:List Nat)=>?_ | (first|refine bD func223 rfl ?_ ?_ ?_ ?_ |fail)<;>intros
 refine jg (hq) ?_;rintro v h2 n2 ⟨d2,C2,rfl,N2,M2⟩;rw[←iJ hib] at M2;have T2:=T.atB (b':=b.st th (ta E.l t+1) val) N2 qi qi (T.rf.acc N2 M2) (nY T.ub hvl) (by simp[Sd.st];exact T.lb);have q1:=(N2.cc (121,0) qi).trans o1;have k1:=T2.st.at q1;rw[N2.dd (121,0) qi] at k1;clear g0 g1 g2 g3 g4 hq M2
 repeat' first|simp(disch:=try exact yj) only[go_sem, *] | (apply xs<;>intro _)<;>try omega | ((with_reducible refine b8 5 ?_);refine dw 65 5 ab1 (by first | (simp only[go_sem, *];done)|rfl) (by kernel_rfl) (by kernel_rfl) ?_) | ((with_reducible refine b8 6 ?_);refine dw 65 6 ab2 (by first | (simp only[go_sem, *];done)|rfl) (by kernel_rfl) (by kernel_rfl) ?_)|refine fun (_ _:List Nat)=>?_
 have lP:=N2.dd (121,0) qi;have key:∀ L1 L2 L3:List Value,∃ C3,Nz n2 d2 C2 [(121,0)] [] d2 C3 (((h2.set (d (121,0)) (row L1)).set (d (121,0)) (row L2)).set (d (121,0)) (row L3)) n2∧C3 (121,0)=row L3:=fun A1 A2 A3=>⟨_,Nz.set qi q1 (((T2.st.set (121,0) _ q1 lP).re lP).re lP),aq⟩;obtain⟨C3,N3,q3⟩:=key [pt (d (108,0)),I6 th,I6 0,.slice (some ⟨d (122,0),2,none⟩) 1 1,.slice (some ⟨d (123,0),1,none⟩) 2 2,.slice (some ⟨d (124,0),1,none⟩) 2 2] [pt (d (108,0)),I6 th,I6 0,.slice (some ⟨d (122,0),2,none⟩) 1 1,.slice (some ⟨d (123,0),2,none⟩) 1 1,.slice (some ⟨d (124,0),1,none⟩) 2 2] [pt (d (108,0)),I6 th,I6 0,.slice (some ⟨d (122,0),2,none⟩) 1 1,.slice (some ⟨d (123,0),2,none⟩) 1 1,.slice (some ⟨d (124,0),2,none⟩) 1 1];have N:=(N2.sub (X':=(121,0)::mB) (Y':=[(103,0)]) (by simp) (by simp)).trans (N3.sub (by simp) (by simp));refine⟨d2,C3,rfl,N,T2.own N3 qi qi,⟨?_,?_,?_,?_⟩⟩
 ·rw[N.dd (108,0) qi,N.dd (122,0) qi,N.dd (123,0) qi,N.dd (124,0) qi];exact q3
 ·exact(N.cc (122,0) qi).trans o2
 ·exact(N.cc (123,0) qi).trans o3
 ·exact(N.cc (124,0) qi).trans o4
theorem Vk(T:Tw E a b d C h n){th t key val st:Int}(O:Sb E d C th t key val st 2)(hk:b.k≤90000)(ht:0≤th∧th<64)(hvl:0≤st∧st<18446744073709551616)(hlo:ta E.l t+4<E.sz):
  cE prog OB 158 [pt (d (121,0))] h n fun r h' n'=>∃ d' C',r=iU [U8 11,.bool true]∧Nz n d C ((121,0)::mB) [(103,0)] d' C' h' n'∧Tw E a (b.st th (ta E.l t+4) st) d' C' h' n'∧Sb E d' C' th t key val st 3:=by
 obtain⟨o1,o2,o3,o4⟩:=O;have hs:=fun x=>Cy (b:=x) (off:=2) (j:=1) qi;replace o1:C (121,0)=row [pt (d (108,0)),I6 th,I6 0,.slice (some ⟨d (122,0),2,none⟩) 1 1,.slice (some ⟨d (123,0),2,none⟩) 1 1,.slice (some ⟨d (124,0),2,none⟩) 1 1]:=o1;have o0:=T.rf.vh;have g0:=T.st.at o0;have g1:=T.st.at o1;have g2:=T.st.at o2;have g3:=T.st.at o3;have g4:=T.st.at o4;have n0:=T.st.lt o0;have n1:=T.st.lt o1;have n2:=T.st.lt o2;have n3:=T.st.lt o3;have n4:=T.st.lt o4;have hib:ta E.l t+4<b.W.length:=by rw[T.lb];exact hlo
 have hq:=wD (x:=st) oQ T.st T.rf.mem qJ ht hib;rw[show ((ta E.l t+4:Nat):Int)=(ta E.l t:Int)+4 by omega] at hq;refine ay (N:=65) func158 rfl rfl fun z hP hO hro hN hQ=>?_
 repeat' first|simp(disch:=try exact yj) only[go_sem, *] | (apply xs<;>intro _)<;>try omega | ((with_reducible refine b8 4 ?_);refine dw 65 4 ab0 (by first | (simp only[go_sem, *];done)|rfl) (by kernel_rfl) (by kernel_rfl) ?_)|refine fun (_ _:List Nat)=>?_ | (first|refine bD func223 rfl ?_ ?_ ?_ ?_ |fail)<;>intros
 refine jg (hq) ?_;rintro v h2 n2 ⟨d2,C2,rfl,N2,M2⟩;rw[←iJ hib] at M2;have T2:=T.atB (b':=b.st th (ta E.l t+4) st) N2 qi qi (T.rf.acc N2 M2) (nY T.ub hvl) (by simp[Sd.st];exact T.lb);have q1:=(N2.cc (121,0) qi).trans o1;have k1:=T2.st.at q1;rw[N2.dd (121,0) qi] at k1;clear g0 g1 g2 g3 g4 hq M2
 repeat' first|simp(disch:=try exact yj) only[go_sem, *] | (apply xs<;>intro _)<;>try omega | ((with_reducible refine b8 5 ?_);refine dw 65 5 ab1 (by first | (simp only[go_sem, *];done)|rfl) (by kernel_rfl) (by kernel_rfl) ?_) | ((with_reducible refine b8 6 ?_);refine dw 65 6 ab2 (by first | (simp only[go_sem, *];done)|rfl) (by kernel_rfl) (by kernel_rfl) ?_)|refine fun (_ _:List Nat)=>?_
 have lP:=N2.dd (121,0) qi;have key:∀ L1 L2 L3:List Value,∃ C3,Nz n2 d2 C2 [(121,0)] [] d2 C3 (((h2.set (d (121,0)) (row L1)).set (d (121,0)) (row L2)).set (d (121,0)) (row L3)) n2∧C3 (121,0)=row L3:=fun A1 A2 A3=>⟨_,Nz.set qi q1 (((T2.st.set (121,0) _ q1 lP).re lP).re lP),aq⟩;obtain⟨C3,N3,q3⟩:=key [pt (d (108,0)),I6 th,I6 0,.slice (some ⟨d (122,0),2,none⟩) 0 0,.slice (some ⟨d (123,0),2,none⟩) 1 1,.slice (some ⟨d (124,0),2,none⟩) 1 1] [pt (d (108,0)),I6 th,I6 0,.slice (some ⟨d (122,0),2,none⟩) 0 0,.slice (some ⟨d (123,0),2,none⟩) 0 0,.slice (some ⟨d (124,0),2,none⟩) 1 1] [pt (d (108,0)),I6 th,I6 0,.slice (some ⟨d (122,0),2,none⟩) 0 0,.slice (some ⟨d (123,0),2,none⟩) 0 0,.slice (some ⟨d (124,0),2,none⟩) 0 0];have N:=(N2.sub (X':=(121,0)::mB) (Y':=[(103,0)]) (by simp) (by simp)).trans (N3.sub (by simp) (by simp));refine⟨d2,C3,N,T2.own N3 qi qi,⟨?_,?_,?_,?_⟩⟩
 ·rw[N.dd (108,0) qi,N.dd (122,0) qi,N.dd (123,0) qi,N.dd (124,0) qi];exact q3
 ·exact(N.cc (122,0) qi).trans o2
 ·exact(N.cc (123,0) qi).trans o3
 ·exact(N.cc (124,0) qi).trans o4
end
end Go.Proofs.YtofmbmclopgldaaGreat
namespace Go.Proofs.YtofmbmclopgldaaGreat
open Go.Am Go.Proofs.Tryz
def Sd.wr(E:Ev)(a:Sd)(th t key val st:Int):Sd:=((a.st th (ta E.l t+0) key).st th (ta E.l t+1) val).st th (ta E.l t+4) st
theorem R_.of{E:Ev}{d d':Rl→Nat}{C C':Rl→Option aj}{th t key val st:Int}{i:Nat}(O:R_ E d C th t key val st i)(hM:d' rM=d rM)(fr:∀ a,a=78∨a=82∨a=83∨a=85∨a=86→d' (a,0)=d (a,0)∧C' (a,0)=C (a,0)):R_ E d' C' th t key val st i:=by
 obtain⟨o1,o2,o3,o4,o5⟩:=O;have e1:=fr 78 qi;have e2:=fr 82 qi;have e3:=fr 83 qi;have e4:=fr 85 qi;have e5:=fr 86 qi;refine⟨?_,?_,e3.2.trans o3,e4.2.trans o4,?_⟩
 ·rw[e1.2,o1,hM]
 ·rw[e2.2,o2,e1.1]
 ·rw[e5.2,o5,hM,e4.1];unfold Jn;rw[e2.1,e3.1]
theorem Sb.of{E:Ev}{d d':Rl→Nat}{C C':Rl→Option aj}{th t key val st:Int}{i:Nat}(O:Sb E d C th t key val st i)(fr:∀ a,a=108∨a=121∨a=122∨a=123∨a=124→d' (a,0)=d (a,0)∧C' (a,0)=C (a,0)):Sb E d' C' th t key val st i:=by
 obtain⟨o1,o2,o3,o4⟩:=O;have e1:=fr 108 qi;have e2:=fr 121 qi;have e3:=fr 122 qi;have e4:=fr 123 qi;have e5:=fr 124 qi;refine⟨?_,e3.2.trans o2,e4.2.trans o3,e5.2.trans o4⟩;rw[e2.2,o1,e1.1,e3.1,e4.1,e5.1]
section
variable {E:Ev} {a b:Sd} {d:Rl→Nat} {C:Rl→Option aj} {h:PT aj} {n:Nat}
theorem Vl(T:Tw E a b d C h n)(hka:a.k≤80000)(hkb:b.k≤80000){th t key val st:Int}(ht:0≤th∧th<64)(hT:ux E.l t)(hst:st=0∨st=1)(hkey:0≤key∧key<18446744073709551616)(hval:0≤val∧val<18446744073709551616):
  cE prog OB 76 [two d,I6 th,I6 t,.agg ⟨[U6 key,U6 val]⟩,U6 st] h n fun v h' n'=>v = .bool true∧∃ d' C',Tw E (a.wr E th t key val st) (b.wr E th t key val st) d' C' h' n'∧Wo d C d' C':=by
 obtain⟨stk,tag,X,xk,R,rk,M,B,Pk,I,EV⟩:=T.pg;obtain⟨pv,vv,qb⟩:=T.rf.base;have Mb:=T.ok.num.vh hT;have h8:=T.ok.num.p8;have h7:=T.ok.num.p7;have hV:=T.ok.num.V1;refine ay (N:=72) func76 rfl rfl fun z hP hO hro hN hQ=>?_;obtain⟨d1,C1,N1,HJ,e92,FB,c92⟩:∃ d1 C1,Nz n d C [(90,0),(92,0)] [(90,0),(92,0)] d1 C1 ((h.set n (some (.cells (PT.ofList .leaf 0 [pt (d (70,0)),pt (d qB)]) false))).set (n+1) (some (.cells (PT.ofList .leaf 0 [U6 key,U6 val]) false))) (n+1+1)∧d1 (90,0)=n∧d1 (92,0)=n+1∧C1 (90,0)=row [pt (d (70,0)),pt (d qB)]∧C1 (92,0)=row [U6 key,U6 val]:=
  ⟨_,_,(Nz.new (X:=[(90,0)]) (Y:=[(90,0)]) qi (Nat.le_refl _) (Nat.le_succ _) (T.st.new (90,0) _ (Nat.le_refl _) (Nat.lt_succ_self _))).app (Nz.new (X:=[(92,0)]) (Y:=[(92,0)]) qi (Nat.le_refl _) (Nat.le_succ _) ((T.st.new (90,0) _ (Nat.le_refl _) (Nat.lt_succ_self _)).new (92,0) _ (Nat.le_refl _) (Nat.lt_succ_self _))),(au qi).trans aq,aq,(au qi).trans aq,aq⟩
 have FA:=T.st.at B.base;have n70:=T.st.lt B.base;have T1:=T.own N1 qi qi;have W1:Wo d C d1 C1:=Wo.of N1 qi qi;have k70:=T1.st.at ((N1.cc (70,0) qi).trans B.base);rw[N1.dd (70,0) qi] at k70;have Cw:=T1.st.at FB;rw[HJ] at Cw;have k92:=T1.st.at c92;rw[e92] at k92;have wr:=Vd (key:=key) (val:=val) T1 ht hT hst;rw[N1.dd (78,0) qi] at wr;clear FA n70
 repeat' first|simp(disch:=first|omega|assumption) only[go_sem, *] | (apply xs<;>intro _)<;>try omega
 generalize (h.set n _).set (n+1) _=h1 at*
 repeat' first|simp(disch:=first|omega|assumption) only[go_sem, *,EA] | (apply xs<;>intro _)<;>try omega | ((with_reducible refine b8 1 ?_);refine dw 72 1 aoE (by first | (simp only[go_sem, *];done)|rfl) (by kernel_rfl) (by kernel_rfl) ?_)
 refine jg (wr) ?_;rintro r h2 n2 ⟨d2,C2,rfl,N2,O2⟩;intro rd1 wr1;have T2:=T1.own N2 qi qi;have W2:=W1.trans (Wo.of N2 qi qi);have U3:=(N2.cc (90,0) qi).trans FB;have arS:=(N2.cc (92,0) qi).trans c92;have Cw:=T2.st.at U3;rw[N2.dd (90,0) qi,HJ] at Cw;have k92:=T2.st.at arS;rw[N2.dd (92,0) qi,e92] at k92;have HK:=(N2.cc qB qi).trans ((N1.cc qB qi).trans qb);have uz:=T2.st.at HK;rw[W2.b] at uz;have rw2:=Vh (key:=key) (val:=val) T2 ht hT hst;rw[N2.dd (108,0) qi,N1.dd (108,0) qi] at rw2;clear wr k70
 repeat' first|simp(disch:=first|omega|assumption) only[go_sem, *] | (apply xs<;>intro _)<;>try omega | ((with_reducible refine b8 2 ?_);refine dw 72 2 aoF (by first | (simp only[go_sem, *];done)|rfl) (by kernel_rfl) (by kernel_rfl) ?_)
 refine jg (rw2) ?_;rintro r h3 n3 ⟨d3,C3,rfl,N3,O3⟩;intro RB RC;have T3:=T2.own N3 qi qi;have W3:=W2.trans (Wo.of N3 qi qi);clear Cw k92 uz rw2
 repeat' first|simp(disch:=first|omega|assumption) only[go_sem, *] | (apply xs<;>intro _)<;>try omega
 have h7':=T.ok.num.p7';have e6:=T.ok.e6;have O2':=O2.of (N3.dd rM qi) fun a ha=>⟨N3.dd _ fun q=>by simp at q;omega,N3.cc _ fun q=>by simp at q;omega⟩;have agx:0≤st∧st<18446744073709551616:=by omega
 have agy:d3 (86,0)=d2 (86,0):=N3.dd (86,0) qi;have sa:=Ve T3 O2' qJ ht hT hkey qJ qJ;rw[agy] at sa;rw[eR]
 repeat' first|simp(disch:=first|omega|assumption) only[go_sem, *] | (apply xs<;>intro _)<;>try omega
 refine jg (sa) ?_;rintro r h4 n4 ⟨d4,C4,rfl,N4,T4,P4⟩;have Q4:=O3.of fun a ha=>⟨N4.dd _ fun q=>by simp at q;omega,N4.cc _ fun q=>by simp at q;omega⟩;have W4:=W3.trans (Wo.of N4 qi qi);have sb:=Vi T4 Q4 qJ ht hkey qJ;rw[N4.dd (121,0) qi] at sb;clear sa
 repeat' first|simp(disch:=first|omega|assumption) only[go_sem, *] | (apply xs<;>intro _)<;>try omega
 refine jg (sb) ?_;rintro r h5 n5 ⟨d5,C5,rfl,N5,T5,Q5⟩;have P5:=P4.of (N5.dd rM qi) fun a ha=>⟨N5.dd _ fun q=>by simp at q;omega,N5.cc _ fun q=>by simp at q;omega⟩;have W5:=W4.trans (Wo.of N5 qi qi);have Xq:d5 (86,0)=d2 (86,0):=(N5.dd (86,0) qi).trans ((N4.dd (86,0) qi).trans agy);have Qr:d5 (121,0)=d3 (121,0):=(N5.dd (121,0) qi).trans ((N4.dd (121,0) qi).trans rfl);clear sb
 repeat' first|simp(disch:=first|omega|assumption) only[go_sem, *,cG,cJ,cH,cI] | (apply xs<;>intro _)<;>try omega
 have sa:=Vf T5 P5 (by simp only[Sd.st];omega) ht hT hval qJ qJ;rw[Xq] at sa;rw[eR]
 repeat' first|simp(disch:=first|omega|assumption) only[go_sem, *] | (apply xs<;>intro _)<;>try omega
 refine jg (sa) ?_;rintro r h6 n6 ⟨d6,C6,rfl,N6,T6,P6⟩;have Q6:=Q5.of fun a ha=>⟨N6.dd _ fun q=>by simp at q;omega,N6.cc _ fun q=>by simp at q;omega⟩;have W6:=W5.trans (Wo.of N6 qi qi);have sb:=Vj T6 Q6 (by simp only[Sd.st];omega) ht hval qJ;rw[N6.dd (121,0) qi,Qr] at sb;clear sa
 repeat' first|simp(disch:=first|omega|assumption) only[go_sem, *] | (apply xs<;>intro _)<;>try omega
 refine jg (sb) ?_;rintro r h7 n7 ⟨d7,C7,rfl,N7,T7,Q7⟩;have P7:=P6.of (N7.dd rM qi) fun a ha=>⟨N7.dd _ fun q=>by simp at q;omega,N7.cc _ fun q=>by simp at q;omega⟩;have W7:=W6.trans (Wo.of N7 qi qi);have Xr:d7 (86,0)=d2 (86,0):=(N7.dd (86,0) qi).trans ((N6.dd (86,0) qi).trans Xq);have Qs:d7 (121,0)=d3 (121,0):=(N7.dd (121,0) qi).trans ((N6.dd (121,0) qi).trans Qr);clear sb
 repeat' first|simp(disch:=first|omega|assumption) only[go_sem, *,cG,cJ,cH,cI] | (apply xs<;>intro _)<;>try omega
 have sa:=Vg T7 P7 (by simp only[Sd.st];omega) ht hT agx qJ qJ;rw[Xr] at sa;rw[eR]
 repeat' first|simp(disch:=first|omega|assumption) only[go_sem, *] | (apply xs<;>intro _)<;>try omega
 refine jg (sa) ?_;rintro r h8 n8 ⟨d8,C8,rfl,N8,T8,P8⟩;have Q8:=Q7.of fun a ha=>⟨N8.dd _ fun q=>by simp at q;omega,N8.cc _ fun q=>by simp at q;omega⟩;have W8:=W7.trans (Wo.of N8 qi qi);have sb:=Vk T8 Q8 (by simp only[Sd.st];omega) ht agx qJ;rw[N8.dd (121,0) qi,Qs] at sb;clear sa
 repeat' first|simp(disch:=first|omega|assumption) only[go_sem, *] | (apply xs<;>intro _)<;>try omega
 refine jg (sb) ?_;rintro r h9 n9 ⟨d9,C9,rfl,N9,T9,Q9⟩;have P9:=P8.of (N9.dd rM qi) fun a ha=>⟨N9.dd _ fun q=>by simp at q;omega,N9.cc _ fun q=>by simp at q;omega⟩;have W9:=W8.trans (Wo.of N9 qi qi);have aBC:d9 (86,0)=d2 (86,0):=(N9.dd (86,0) qi).trans ((N8.dd (86,0) qi).trans Xr);have arU:d9 (121,0)=d3 (121,0):=(N9.dd (121,0) qi).trans ((N8.dd (121,0) qi).trans Qs);clear sb
 repeat' first|simp(disch:=first|omega|assumption) only[go_sem, *,cG,cJ,cH,cI] | (apply xs<;>intro _)<;>try omega
 rw[eR]
 repeat' first|simp(disch:=first|omega|assumption) only[go_sem, *] | (apply xs<;>intro _)<;>try omega
 exact⟨d9,C9,T9,W9⟩
end
end Go.Proofs.YtofmbmclopgldaaGreat
namespace Go.Proofs.YtofmbmclopgldaaGreat
open Go.Am
theorem B6{W:List Int}{i:Nat}{x:Int}(j:Int)(hi:i<W.length):vm (W.set i x) j=if j=i then x else vm W j:=by
 unfold vm;rw[List.length_set];by_cases c:j=(i:Int)
 ·subst c;rw[if_pos rfl,if_pos qJ,Int.toNat_natCast];simp[List.getD,hi]
 ·rw[if_neg c];split
  ·rename_i hc;have:j.toNat≠i:=by omega
   simp only[List.getD];rw[List.getElem?_set_ne (Ne.symm this)]
  ·rfl
def Path(l:dg)(W:List Int)(k:Int):Int→List Int→Prop
 |r,[]=>vm W (na l r k)=0
 |r,t::ts=>vm W (na l r k)=t∧ux l t∧k<hgt l t∧Path l W k t ts
section
variable {l:dg} {V:Int} {sz:Nat} {W:List Int} {k:Int}
theorem Path.mem:∀ {r:Int} {ts:List Int},Path l W k r ts→∀ t∈ts,ux l t∧k<hgt l t
 | _,[],_,t,h=>by simp at h
 | _,a::ts,⟨h1,h2,h3,h4⟩,t,h=>by
  rcases List.mem_cons.1 h with rfl |h
  ·exact⟨h2,h3⟩
  ·exact h4.mem t h
theorem Path.frame{W':List Int}:∀ {r:Int} {ts:List Int},Path l W k r ts→(∀ t,t=r∨t∈ts→vm W' (na l t k)=vm W (na l t k))→Path l W' k r ts
 |r,[],h,e=>by
  have:=e r (.inl rfl);simp only[Path] at h ⊢;rw[this];exact h
 |r,a::ts,⟨h1,h2,h3,h4⟩,e=>⟨by rw[e r (.inl rfl)];exact h1,h2,h3,h4.frame fun t ht=>e t (.inr (by rcases ht with rfl |ht<;>simp[*]))⟩
theorem aaX(hn:qy l V sz)(hW:W.length=sz){r:Int}{ts:List Int}(hd:Nd l V r k)(h:Path l W k r ts):Ji l W r k=ts.headD 0:=by
 have e:=hn.nxt hd;unfold Ji;rw[e.1,e.2,if_pos rfl];cases ts with
 |nil=>
  have:vm W (na l r k)=0:=h;rw[this,if_pos qJ];rfl
 |cons t ts=>
  obtain⟨h1,h2,h3,h4⟩:=h;rw[h1,if_pos h2.2];rfl
theorem X6(hn:qy l V sz)(hW:W.length=sz)(hk:0≤k):∀ {ts:List Int} {r:Int} {S:List Bool} {f:Nat},Nd l V r k→Path l W k r ts→ts.Nodup→(∀ t∈ts,S.getD t.toNat true=false)→ts.length<f→chain l W k f S (Ji l W r k)=ts
 | [],r,S,f+1,hd,h,hnd,hS,hf=>by
  rw[aaX hn hW hd h];simp only[chain,List.headD_nil];exact if_neg fun q=>absurd q.1 qJ
 |t::ts,r,S,f+1,hd,h,hnd,hS,hf=>by
  rw[aaX hn hW hd h];obtain⟨h1,h2,h3,h4⟩:=h;obtain⟨n1,n2⟩:=List.nodup_cons.1 hnd;have hh:qx l.H t=hgt l t:=by unfold qx;rw[if_pos (show 1≤t∧t≤_ from h2)];rfl
  simp only[chain,List.headD_cons];have hc:0<t∧S.getD t.toNat true=false∧k<qx l.H t:=⟨by have:=h2.1;omega,hS t (by simp),by rw[hh];exact h3⟩;refine(if_pos hc).trans ?_
  congr 1
  refine X6 hn hW hk ⟨hk,.inr ⟨h2,h3⟩⟩ h4 n2 (fun u hu=>?_) (by simpa using hf);have hm:=h4.mem u hu;have:=hS u (by simp[hu]);simp only[List.getD] at this ⊢;rw[List.getElem?_set_ne (fun e=>?_)]
  ·exact this
  ·have:u=t:=by have:=hm.1.1;have:=h2.1;omega
   exact n1 (by rw[←this];exact hu)
theorem ab3{n:Nat}{ts:List Int}(hnd:ts.Nodup)(h:∀ t∈ts,1≤t∧t≤(n:Int)):ts.length≤n:=by
 have:(ts.map Int.toNat).Nodup:=by
  rw[List.nodup_iff_pairwise_ne,List.pairwise_map];refine List.Pairwise.imp_of_mem ?_ (List.nodup_iff_pairwise_ne.1 hnd);intro a b ha hb hne e;have:=h a ha;have:=h b hb;exact hne qJ
 have hsub:(ts.map Int.toNat) ⊆ (List.range n).map (·+1):=fun x hx=>by
  obtain⟨t,ht,rfl⟩:=List.mem_map.1 hx;have:=h t ht;exact List.mem_map.2 ⟨t.toNat-1,List.mem_range.2 qJ,by omega⟩
 have:=List.Nodup.length_le_of_subset this hsub
 simpa using this
theorem aaY(hn:qy l V sz)(hW:W.length=sz)(hk:0≤k∧k<6){v:Int}(hv:0≤v∧v<V){ts:List Int}(h:Path l W k (-1-v) ts)(hnd:ts.Nodup):wE l W v k=ts:=by
 have hl:=ab3 (n:=l.H.length) hnd fun t ht=>(h.mem t ht).1;unfold wE;refine X6 hn hW hk.1 ⟨hk.1,.inl ⟨by omega,by omega,hk.2⟩⟩ h hnd (fun t ht=>?_) qJ;have:=(h.mem t ht).1;obtain⟨t1,t2⟩:=this;simp only[List.getD];rw[List.getElem?_replicate,if_pos qJ];rfl
theorem Path.put(hn:qy l V sz)(hW:W.length=sz)(hk:0≤k){t:Int}(ht:ux l t)(hth:k<hgt l t):∀ {A B:List Int} {r:Int},Nd l V r k→Path l W k r (A++B)→t≠r→t∉A++B→r∉A++B→(A++B).Nodup→
  Path l ((W.set (na l t k) (vm W (na l (A.getLastD r) k))).set (na l (A.getLastD r) k) t) k r (A++t::B)
 | [],B,r,hd,h,hr,hm,hr2,hnd=>by
  have hdt:Nd l V t k:=⟨hk,.inr ⟨ht,hth⟩⟩;have l1:=(hn.naR hd).2;have l2:=(hn.naR hdt).2;have hne:na l t k≠na l r k:=fun e=>hr (hn.X5 hdt hd e).1;simp only[List.nil_append,List.getLastD_nil] at h hm hr2 ⊢;have w:∀ j:Int,vm ((W.set (na l t k) (vm W (na l r k))).set (na l r k) t) j=if j=na l r k then t else if j=na l t k then vm W (na l r k) else vm W j:=fun j=>by
   rw[B6 _ (by rw[List.length_set];omega),B6 _ qJ]
  refine⟨by rw[w,if_pos rfl],ht,hth,?_⟩;have aA4:∀ u∈B,vm ((W.set (na l t k) (vm W (na l r k))).set (na l r k) t) (na l u k)=vm W (na l u k):=fun u hu=>by
   have hu2:ux l u∧k<hgt l u:=h.mem u hu;have hdu:Nd l V u k:=⟨hk,.inr hu2⟩;rw[w,if_neg fun e=>hr2 (by have:=(hn.X5 hdu hd qJ).1;rw[←this];exact hu),if_neg fun e=>hm (by have:=(hn.X5 hdu hdt qJ).1;rw[←this];exact hu)]
  have wt:vm ((W.set (na l t k) (vm W (na l r k))).set (na l r k) t) (na l t k)=vm W (na l r k):=by rw[w,if_neg qJ,if_pos rfl]
  cases B with
  |nil=>show _=_;rw[wt];exact h
  |cons b B=>
   obtain⟨h1,h2,h3,h4⟩:=h;exact⟨by rw[wt];exact h1,h2,h3,h4.frame fun u hu=>aA4 u (by rcases hu with rfl |hu<;>simp[*])⟩
 |a::A,B,r,hd,h,hr,hm,hr2,hnd=>by
  obtain⟨h1,h2,h3,h4⟩:=h;have hda:Nd l V a k:=⟨hk,.inr ⟨h2,h3⟩⟩;simp only[List.cons_append,List.mem_cons,not_or] at hm hr2;rw[List.cons_append,List.nodup_cons] at hnd;have ih:=Path.put hn hW hk ht hth (A:=A) (B:=B) (r:=a) hda h4 hm.1 hm.2 hnd.1 hnd.2;rw[List.getLastD_cons];have hb:∃ b,A.getLastD a=b∧(b=a∨b∈A):=by
   cases A with
   |nil=>exact⟨a,rfl,.inl rfl⟩
   |cons x A=>exact⟨_,rfl,.inr (by rw[List.getLastD_cons];cases A with
    |nil=>simp
    |cons y A=>rw[List.getLastD_cons];exact List.mem_cons_of_mem _ (by
      have:(y::A).getLastD x∈(y::A):=by rw[List.getLastD_eq_getLast?,List.getLast?_eq_some_getLast (by simp)];exact List.getLast_mem _
      rw[List.getLastD_cons] at this;exact this))⟩
  obtain⟨b,eb,hb⟩:=hb;rw[eb] at ih ⊢;have hbm:ux l b∧k<hgt l b:=by
   rcases hb with rfl |hb
   ·exact⟨h2,h3⟩
   ·exact h4.mem b (by simp[hb])
  have hdb:Nd l V b k:=⟨hk,.inr hbm⟩;have hdt:Nd l V t k:=⟨hk,.inr ⟨ht,hth⟩⟩;have l1:=(hn.naR hdb).2;have l2:=(hn.naR hdt).2;refine⟨?_,h2,h3,ih⟩;rw[B6 _ (by rw[List.length_set];omega),B6 _ qJ,if_neg fun e=>?_,if_neg fun e=>hr (hn.X5 hdt hd qJ).1]
  ·exact h1
  ·have:=(hn.X5 hd hdb qJ).1
   rcases hb with rfl |hb
   ·exact hr2.1 this
   ·exact hr2.2 (by rw[this];simp[hb])
end
end Go.Proofs.YtofmbmclopgldaaGreat
