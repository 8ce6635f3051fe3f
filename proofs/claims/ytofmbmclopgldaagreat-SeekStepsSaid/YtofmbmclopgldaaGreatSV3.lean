/-
A part.
-/
import Derived.Test.YtofmbmclopgldaaGreatSS5
import Derived.Test.YtofmbmclopgldaaGreatSOA
set_option linter.all false
set_option maxRecDepth 100000
set_option maxHeartbeats 16000000
namespace Go.Proofs.YtofmbmclopgldaaGreat
open Go.Am Go.Proofs.Tryz
theorem Rn{E:Ev}{A:List (List Int)}{s s':Sd}{i:Nat}(h:Laid E A s i s'):iT s.L s'.L:=by
 induction h with
 |zero=>exact iT.refl
 |succ h e ih=>
  refine ih.trans ?_;cases e with
  |has h=>exact iT.refl
  |none h k=>exact k.log
  | @laid s3 t h ht k=>
   refine k.log.trans ?_;have hl:∀ (s:Sd) (v key tt:Int) (m:Nat),iT s.L (s.E6 E v key tt m).L:=fun s v key tt m=>by
    induction m with
    |zero=>exact iT.refl
    |succ m ih=>exact ih.trans (iT.refl.acc.acc)
   have hw:∀ (s:Sd) (tt key val:Int),iT s.L (s.wr E 0 tt key val 1).L:=fun s tt key val=>iT.refl.acc.acc.acc;exact(hw s3 _ _ _).trans (hl _ _ _ _ _)
theorem acz(a:Nat):Int.fdiv (a:Int) 2=((a/2:Nat):Int):=by
 rw[Int.fdiv_eq_ediv_of_nonneg _ qJ];rfl
theorem bsearch(s:Value)(T:List Int)(a:Int)(h:PT aj)(N:Nat)(hs:aN .i64 h s T)(hsort:∀ i j,i≤j→j<T.length→T.getD i 0≤T.getD j 0)(hn:T.length≤100000):
  cE prog OB 107 [s,I6 a] h N fun v h' n'=>(∃ i:Nat,i≤T.length∧(∀ j,j<i→T.getD j 0<a)∧(∀ j,i≤j→j<T.length→a≤T.getD j 0)∧v=iU [I6 i,.bool (decide (i<T.length∧T.getD i 0=a))])∧h'=h∧n'=N:=by
 obtain⟨ad,cap,rfl,hA⟩:=hs.len;refine ay (N:=54) func107 rfl rfl fun z hP hO hro hN hQ=>?_
 repeat' first|simp(disch:=try exact yj) only[go_sem, *] | (apply xs<;>intro _)<;>try omega|refine fun (_ _:List Nat)=>?_
 refine a_ (fun t m h' n'=>∃ lo hi:Nat,lo≤hi∧hi≤T.length∧t=hi-lo∧m.n=54∧m.fF=[]∧m.get 0 = .slice ad T.length cap∧m.get 1 = .int .i64 a∧m.get 4 = .int .i64 0∧m.get 5 = .bool false∧m.get 6 = .int .i64 T.length∧m.get 7 = .int .i64 lo∧m.get 8 = .int .i64 hi∧h'=h∧n'=N∧(∀ j,j<lo→T.getD j 0<a)∧∀ j,hi≤j→j<T.length→a≤T.getD j 0) T.length ?_ ?_
 ·refine⟨0,T.length,by omega,by omega,by omega,?_⟩;simp(disch:=try exact yj) only[go_sem, *];exact⟨fun j hj=>by omega,fun j h1 h2=>by omega⟩
 ·rintro t m h' n' ih ⟨lo,hi,hlh,hhi,rfl,m1,m2,m3,m4,m5,m6,m7,m8,m9,rfl,rfl,q1,q2⟩;by_cases hlt:lo<hi
  ·have e7:(lo:Int)<hi:=by omega
   have hmid:lo≤(lo+hi)/2∧(lo+hi)/2<hi:=by omega
   generalize hmm:(lo+hi)/2=mid at hmid;obtain⟨bk,off,sp,L,ro,rfl,H_,hL⟩:=hA mid qJ;have hw:IntKind.u64.wrap ((lo:Int)+hi)=((lo+hi:Nat):Int):=by
    have:=wrap_u64 (x:=(lo:Int)+hi) qJ qJ;omega
   have hfd:((lo+hi:Nat):Int).fdiv (2^min 1 64)=((mid:Nat):Int):=by
    rw[←hmm];exact acz (lo+hi)
   have hmT:mid<T.length:=by omega
   have p1:∀ j,T.getD mid 0<a→j<mid+1→T.getD j 0<a:=fun j hc hj=>Int.lt_of_le_of_lt (hsort j mid qJ hmT) hc;have p2:∀ j,¬T.getD mid 0<a→mid≤j→j<T.length→a≤T.getD j 0:=fun j hc h1 h2=>Int.le_trans (Int.not_lt.1 hc) (hsort mid j h1 h2);clear hA;generalize T.getD mid 0=y at*;by_cases hc:y<a
   ·clear p2
    repeat' first|simp(disch:=try exact yj) only[go_sem, *] | (apply xs<;>intro _)<;>try omega|refine fun (_ _:List Nat)=>?_ | (first|refine bD func175 rfl ?_ ?_ ?_ ?_ |refine bD func228 rfl ?_ ?_ ?_ ?_ |fail)<;>intros
    refine ih (hi-(mid+1)) _ _ _ qJ ⟨mid+1,hi,by omega,hhi,rfl,?_⟩;have PG:((mid+1:Nat):Int)=(mid:Int)+1:=by omega
    rw[PG];clear ih;simp(disch:=try exact yj) only[go_sem, *];exact⟨fun j hj=>p1 j hc hj,q2⟩
   ·clear p1
    repeat' first|simp(disch:=try exact yj) only[go_sem, *] | (apply xs<;>intro _)<;>try omega|refine fun (_ _:List Nat)=>?_ | (first|refine bD func175 rfl ?_ ?_ ?_ ?_ |refine bD func228 rfl ?_ ?_ ?_ ?_ |fail)<;>intros
    refine ih (mid-lo) _ _ _ qJ ⟨lo,mid,by omega,by omega,rfl,?_⟩;clear ih;simp(disch:=try exact yj) only[go_sem, *];exact⟨q1,fun j h1 h2=>p2 j hc h1 h2⟩
  ·have e7: ¬ (lo:Int)<hi:=by omega
   by_cases hl:lo<T.length
   ·have e8:(lo:Int)<T.length:=by omega
    obtain⟨bk,off,sp,L,ro,rfl,H_,hL⟩:=hA lo hl;by_cases he:T.getD lo 0=a
    ·clear hA ih
     repeat' first|simp(disch:=try exact yj) only[go_sem, *] | (apply xs<;>intro _)<;>try omega|refine fun (_ _:List Nat)=>?_
     exact⟨lo,by omega,q1,fun j h1 h2=>q2 j qJ h2,by rw[decide_eq_true ⟨hl,he⟩]⟩
    ·clear hA ih
     repeat' first|simp(disch:=try exact yj) only[go_sem, *] | (apply xs<;>intro _)<;>try omega|refine fun (_ _:List Nat)=>?_ | (first|refine bD func176 rfl ?_ ?_ ?_ ?_ |fail)<;>intros
     exact⟨lo,by omega,q1,fun j h1 h2=>q2 j qJ h2,by rw[decide_eq_false fun q=>he q.2]⟩
   ·have e8: ¬ (lo:Int)<T.length:=by omega
    clear hA ih
    repeat' first|simp(disch:=try exact yj) only[go_sem, *] | (apply xs<;>intro _)<;>try omega|refine fun (_ _:List Nat)=>?_
    exact⟨lo,by omega,q1,fun j h1 h2=>q2 j qJ h2,by simp[hl]⟩
section
variable {h:PT aj} {n lb sz:Nat} {l:dg} {V:Int}
theorem ofT(hW:bQ h n)(R:OfR h lb l V)(hn:qy l V sz){t:Int}{w:Nat}(hT:ux l t)(hw:(w:Int)<5+hgt l t):
  cE prog OB 44 [pt lb,I6 ((ta l t+w:Nat):Int)] h n fun y h' n'=>y = .agg ⟨[U8 9,I6 t,I6 w]⟩∧Kept h h'∧bQ h' n'∧n≤n':=by
 obtain⟨S,tv,gb,c,sl,ew,lo,f1,f2,f3,f4,f5,f6,f7,H,r1,rl,r2,r3,r4,r5,r6,r7,-,-,-,-⟩:=R.r;obtain⟨tw1,tw2,tw3,tw4,tw5⟩:=hn.vh hT;have p9:=hn.p9;have z2:=hn.RY;have lT:l.T.length=l.H.length:=by rw[hn.T];exact yw _ _
 have hlt:=hW.lt r1;have p7:=hn.p7;have hV1:=hn.V1;have p8:=hn.p8;obtain⟨t1,t2⟩:=hT;have stp:∀ u,ux l u→(t<u→(ta l t:Int)+5+hgt l t≤ta l u)∧(u<t→ta l u<ta l t):=fun u hu=>by
  have hu2:=hn.vh hu;have ht2:=hn.vh ⟨t1,t2⟩;exact⟨fun q=>by have:=hn.step ⟨t1,t2⟩ hu q;omega,fun q=>by have:=hn.step hu ⟨t1,t2⟩ q;omega⟩
 have tg:∀ j:Nat,j<l.T.length→l.T.getD j 0=ta l ((j:Int)+1):=fun j hj=>by
  have:=(hn.vh (t:=(j:Int)+1) ⟨by omega,by omega⟩).2.1;rw[this,show ((j:Int)+1-1).toNat=j by omega]
 have hsort:∀ i j,i≤j→j<l.T.length→l.T.getD i 0≤l.T.getD j 0:=fun i j hij hj=>by
  rw[tg i qJ,tg j hj]
  rcases Nat.lt_or_eq_of_le hij with q |q
  ·have a:=hn.vh (t:=(i:Int)+1) ⟨by omega,by omega⟩;have:=hn.step (t:=(i:Int)+1) (u:=(j:Int)+1) ⟨by omega,by omega⟩ ⟨by omega,by omega⟩ qJ;omega
  ·rw[q];exact Int.le_refl _
 have hlen:l.H.length≤100000:=by have:=hn.p7';have:=hn.yL.len;omega
 obtain⟨sa,sc,rfl,hA⟩:=r6.len;refine ay (N:=102) func44 rfl rfl fun z hP hO hro hN hQ=>?_;have bs:=bsearch _ l.T ((ta l t+w:Nat):Int) (h.set n (row [U8 0,I6 0,I6 0])) (n+1) (r6.keep (hW.kept (Nat.le_refl _))) hsort qJ;have hp8:l.P.getD 8 0≤((ta l t+w:Nat):Int):=by omega
 have hp9: ¬ (l.P.getD 9 0-1:Int)<((ta l t+w:Nat):Int):=by omega
 have aJh:(((ta l t+w:Nat):Int):Int)≤l.P.getD 9 0-1:=by omega
 have aJi:(0:Int)≤((ta l t+w:Nat):Int):=by omega
 have b9:(0:Int)≤l.P.getD 9 0∧l.P.getD 9 0≤20000:=by omega
 have b8:(0:Int)≤l.P.getD 8 0∧l.P.getD 8 0≤20000:=by omega
 have key:∀ i:Nat,i≤l.T.length→(∀ j,j<i→l.T.getD j 0<((ta l t+w:Nat):Int))→(∀ j,i≤j→j<l.T.length→((ta l t+w:Nat):Int)≤l.T.getD j 0)→(w=0∧(i:Int)+1=t∧(i<l.T.length∧l.T.getD i 0=((ta l t+w:Nat):Int)))∨(w≠0∧(i:Int)=t∧ ¬(i<l.T.length∧l.T.getD i 0=((ta l t+w:Nat):Int))):=fun i h1 h2 h3=>by
  have e0:=tg (t-1).toNat qJ;rw[show (((t-1).toNat:Nat):Int)+1=t by omega] at e0
  rcases Nat.eq_zero_or_pos w with q |q
  ·left;have a1:i≤(t-1).toNat:=by
    rcases Nat.lt_or_ge (t-1).toNat i with c |c
    ·have:=h2 _ c;omega
    ·exact c
   have a2:(t-1).toNat≤i:=by
    rcases Nat.lt_or_ge i (t-1).toNat with c |c
    ·have:=h3 i (Nat.le_refl _) qJ;rw[tg i qJ] at this;have:=(stp ((i:Int)+1) ⟨by omega,by omega⟩).2 qJ;omega
    ·exact c
   have a3:i=(t-1).toNat:=by omega
   subst a3;exact⟨q,by omega,by omega,by omega⟩
  ·right;have a1:(t-1).toNat<i:=by
    rcases Nat.lt_or_ge (t-1).toNat i with c |c
    ·exact c
    ·have:=h3 _ c qJ;omega
   have a2:i≤t.toNat:=by
    rcases Nat.lt_or_ge t.toNat i with c |c
    ·have:=h2 _ c;rw[tg t.toNat qJ,show (t.toNat:Int)+1=t+1 by omega] at this;have:=(stp (t+1) ⟨by omega,by omega⟩).1 qJ;omega
    ·exact c
   refine⟨by omega,by omega,fun c=>?_⟩;have e:=c.2;rw[tg i c.1,show (i:Int)+1=t+1 by omega] at e;have:=(stp (t+1) ⟨by omega,by omega⟩).1 qJ;omega
 have e0:=tg (t-1).toNat qJ;rw[show (((t-1).toNat:Nat):Int)+1=t by omega] at e0;obtain⟨tn,rfl⟩:∃ tn:Nat,t=tn+1:=⟨(t-1).toNat,by omega⟩;rw[show ((tn:Int)+1-1).toNat=tn by omega] at e0;obtain⟨bk,off,sp,L,ro,hsa,H_,hL⟩:=hA tn qJ;have htn:tn<l.T.length:=by omega
 have WS:(l.T.length:Int)≤100000:=by omega
 have FH:=hW.lt H_;clear tg stp hsort hA hn r6 r7 r4 tw1 tw3 p9 p8 hV1 lT t1 t2;generalize ta l ((tn:Int)+1)=ad at*;subst hsa;rw[e0] at hL;have hto:((tn:Int)+1-1).toNat=tn:=by omega
 have hsub:((ad+w:Nat):Int)-(ad:Int)=(w:Int):=by omega
 clear tw2 e0
 repeat' first|simp(disch:=try exact yj) only[go_sem, *] | (apply xs<;>intro _)<;>try omega|refine fun (_ _:List Nat)=>?_ | (first|refine bD func106 rfl ?_ ?_ ?_ ?_ |fail)<;>intros
 refine jg (bs) ?_;rintro y h2 n2 ⟨⟨i,i1,i2,i3,rfl⟩,rfl,rfl⟩
 rcases key i i1 i2 i3 with ⟨k1,k2,k3⟩ | ⟨k1,k2,k3⟩
 ·obtain rfl:tn=i:=by omega
  rw[decide_eq_true k3];clear key bs i2 i3 k3 k1 k2
  repeat' first|simp(disch:=try exact yj) only[go_sem, *] | (apply xs<;>intro _)<;>try omega|refine fun (_ _:List Nat)=>?_
  refine⟨?_,?_,by omega⟩
  ·repeat refine Kept.set' hW qJ ?_
   exact Kept.refl _
  ·(repeat refine bQ.set' qJ ?_);first|assumption|exact bQ.mono (by assumption) qJ
 ·obtain rfl:i=tn+1:=by omega
  rw[decide_eq_false k3];clear key bs i2 i3 k3
  repeat' first|simp(disch:=try exact yj) only[go_sem, *] | (apply xs<;>intro _)<;>try omega|refine fun (_ _:List Nat)=>?_
  refine⟨?_,?_,by omega⟩
  ·repeat refine Kept.set' hW qJ ?_
   exact Kept.refl _
  ·(repeat refine bQ.set' qJ ?_);first|assumption|exact bQ.mono (by assumption) qJ
theorem ofH(hW:bQ h n)(R:OfR h lb l V)(hn:qy l V sz){v k:Int}(hv:0≤v∧v<V)(hk:0≤k∧k<6):
  cE prog OB 44 [pt lb,I6 (na l (-1-v) k:Int)] h n fun y h' n'=>y = .agg ⟨[U8 8,I6 v,I6 (1+k)]⟩∧Kept h h'∧bQ h' n'∧n≤n':=by
 obtain⟨S,tv,gb,c,sl,ew,lo,f1,f2,f3,f4,f5,f6,f7,H,r1,rl,r2,r3,r4,r5,r6,r7,b1,b2,b3,b4⟩:=R.r;have p9:=hn.p9;have z2:=hn.RY;have hlt:=hW.lt r1;have aJk:=hW.lt r7;have p7:=hn.p7;have hV1:=hn.V1;have hV2:=hn.V2;have p8:=hn.p8;have hH:0≤H∧H≤2000:=by have:=hn.p7';have:=hn.yL.len;have:=hn.yL.p5;have:=hn.yL.p6;omega
 have ha:(na l (-1-v) k:Int)=l.P.getD 7 0+v*7+1+k:=by unfold na;rw[if_pos qJ];omega
 have hR:=(hn.naR (r := -1-v) (k:=k) ⟨hk.1,.inl ⟨by omega,by omega,hk.2⟩⟩).2;generalize na l (-1-v) k=a at*;generalize l.P.getD 7 0=P7 at*;generalize l.P.getD 8 0=P8 at*;generalize l.P.getD 9 0=P9 at*;have x0:(0:Int)≤(a:Int):=by omega
 have x1: ¬ P9-1<(a:Int):=by omega
 have x2:(a:Int)≤P9-1:=by omega
 have x3: ¬ P8≤(a:Int):=by omega
 have y1: ¬ (a:Int)-f1<sl*1:=by omega
 have y2: ¬ (a:Int)-f2<1*ew:=by omega
 have y3: ¬ (a:Int)-f3<1*1:=by omega
 have y4: ¬ (a:Int)-f4<lo*3:=by omega
 have y5: ¬ (a:Int)-f5<lo*1:=by omega
 have y6: ¬ (a:Int)-f6<6*1:=by omega
 have y7: ¬ (a:Int)-f7<H*1:=by omega
 have y8:(a:Int)-P7<V*7:=by omega
 have d1:((a:Int)-P7).tdiv 7=v:=by rw[Int.tdiv_eq_ediv_of_nonneg qJ];omega
 have d2:((a:Int)-P7).tmod 7=1+k:=by rw[Int.tmod_eq_emod_of_nonneg qJ];omega
 have wa:(a:Int)≤20000:=by omega
 have wP:0≤P7∧P7≤20000:=by omega
 have w9:0≤P9∧P9≤20000:=by omega
 have w8:0≤P8∧P8≤20000:=by omega
 have wf:(0≤f1∧f1≤20000)∧(0≤f2∧f2≤20000)∧(0≤f3∧f3≤20000)∧(0≤f4∧f4≤20000)∧(0≤f5∧f5≤20000)∧(0≤f6∧f6≤20000)∧(0≤f7∧f7≤20000):=by omega
 clear hn R r6 r5 ha p8 p9 b4 hR;refine ay (N:=102) func44 rfl rfl fun z hP hO hro hN hQ=>?_
 repeat' first|simp(disch:=try exact yj) only[go_sem, *] | (apply xs<;>intro _)<;>try omega|refine fun (_ _:List Nat)=>?_ | (first|refine bD func106 rfl ?_ ?_ ?_ ?_ |fail)<;>intros
 rcases Int.lt_or_le 0 ew with g |g
 all_goals
  iterate 8 (rw[eR];(repeat' first|simp(disch:=try exact yj) only[go_sem, *] | (apply xs<;>intro _)<;>try omega | ((with_reducible refine b8 13 ?_);refine dw 102 13 afv (by first | (simp only[go_sem, *];done)|rfl) (by kernel_rfl) (by kernel_rfl) ?_)|refine fun (_ _:List Nat)=>?_))
  refine⟨?_,?_,by omega⟩
  ·repeat refine Kept.set' hW qJ ?_
   exact Kept.refl _
  ·(repeat refine bQ.set' qJ ?_);first|assumption|exact bQ.mono (by assumption) qJ
end
end Go.Proofs.YtofmbmclopgldaaGreat
namespace Go.Proofs.YtofmbmclopgldaaGreat
open Go.Am
def I1(E:Ev)(k:Nat)(X:List Int):List Int:=X.filter fun t=>decide ((k:Int)<hgt E.l t)
structure Form(E:Ev)(s:Sd)(X:Int→List Int):Prop where
 len:s.W.length=E.sz
 kl:s.K.length=E.l.H.length+1
 path:∀ v,0≤v→v<E.V→∀ k:Nat,k<6→Path E.l s.W k (-1-v) (I1 E k (X v))
 yt:∀ v,0≤v→v<E.V→(X v).Pairwise fun t u=>uB E s.W t<uB E s.W u
 on:∀ v,0≤v→v<E.V→∀ t∈X v,ux E.l t∧s.K.getD t.toNat 0=2∧E.val (uB E s.W t)=v
section
variable {E:Ev} {s s':Sd} {X:Int→List Int} {W:List Int} {v key t:Int}
theorem z7{k:Nat}{L:List Int}:t∈I1 E k L↔t∈L∧(k:Int)<hgt E.l t:=by unfold I1;simp
theorem pV{k:Nat}{A B:List Int}:I1 E k (A++B)=I1 E k A++I1 E k B:=List.filter_append ..
theorem X7{k:Nat}{B:List Int}(h:(k:Int)<hgt E.l t):I1 E k (t::B)=t::I1 E k B:=List.filter_cons_of_pos (by simpa using h)
theorem abt(ok:tF E){L:List Int}(h:∀ t∈L,ux E.l t):I1 E 0 L=L:=List.filter_eq_self.2 fun t ht=>by have:=(ok.num.vh (h t ht)).2.2.2.1;simp;omega
theorem acB{L:List Int}(h:L.Pairwise fun t u=>uB E W t<uB E W u):L.Nodup:=List.nodup_iff_pairwise_ne.2 (h.imp fun q e=>by rw[e] at q;omega)
theorem Form.nodup(F:Form E s X)(h0:0≤v)(h1:v<E.V)(k:Nat):(I1 E k (X v)).Nodup:=(acB (F.yt v h0 h1)).sublist List.filter_sublist
theorem Form.wE(ok:tF E)(F:Form E s X)(h0:0≤v)(h1:v<E.V){k:Nat}(hk:k<6):Go.Proofs.YtofmbmclopgldaaGreat.wE E.l s.W v k=I1 E k (X v):=
 aaY ok.num F.len ⟨by omega,by omega⟩ ⟨h0,h1⟩ (F.path v h0 h1 k hk) (F.nodup h0 h1 k)
theorem Po(h0:0≤v)(h1:v<E.V){k:Nat}(hk:k<6):Nd E.l E.V (-1-v) k:=⟨by omega,.inl ⟨by omega,by omega,by omega⟩⟩
theorem Form.nd(F:Form E s X)(h0:0≤v)(h1:v<E.V){k:Nat}(h:t∈I1 E k (X v)):Nd E.l E.V t k:=⟨by omega,.inr ⟨(F.on v h0 h1 t (z7.1 h).1).1,(z7.1 h).2⟩⟩
theorem Form.frame(F:Form E s X)(hl:s'.W.length=s.W.length)(hK:s'.K.length=s.K.length)(hn:∀ (r:Int) (k:Nat),Nd E.l E.V r k→(r<0∨∃ v,0≤v∧v<E.V∧r∈X v)→vm s'.W (na E.l r k)=vm s.W (na E.l r k))
  (hk:∀ v,0≤v→v<E.V→∀ t∈X v,uB E s'.W t=uB E s.W t∧s'.K.getD t.toNat 0=s.K.getD t.toNat 0):Form E s' X:=by
 refine⟨hl.trans F.len,hK.trans F.kl,fun v h0 h1 k hk6=>(F.path v h0 h1 k hk6).frame fun t ht=>?_,fun v h0 h1=>?_,fun v h0 h1 t ht=>?_⟩
 ·rcases ht with rfl |ht
  ·exact hn _ k (Po h0 h1 hk6) (.inl qJ)
  ·exact hn _ k (F.nd h0 h1 ht) (.inr ⟨v,h0,h1,(z7.1 ht).1⟩)
 ·exact(F.yt v h0 h1).imp_of_mem fun {a b} ha hb q=>by rw[(hk v h0 h1 a ha).1,(hk v h0 h1 b hb).1];exact q
 ·obtain⟨a,b,c⟩:=F.on v h0 h1 t ht;obtain⟨e1,e2⟩:=hk v h0 h1 t ht;exact⟨a,by rw[e2];exact b,by rw[e1];exact c⟩
theorem R1{W':List Int}(hl:W'.length=W.length){i:Nat}(h:W'[i]? = W[i]?):vm W' i=vm W i:=by
 unfold vm;rw[hl];split
 ·simp only[List.getD,Int.toNat_natCast];rw[h]
 ·rfl
theorem getD_set_ne{L:List Int}{i j:Nat}{x d:Int}(h:i≠j):(L.set i x).getD j d=L.getD j d:=by simp only[List.getD];rw[List.getElem?_set_ne h]
theorem tF.above(ok:tF E):(∀ r (k:Int),Nd E.l E.V r k→E.p6≤na E.l r k)∧∀ t,ux E.l t→E.p6≤ta E.l t:=by
 have e6:=ok.e6;have p7:=ok.num.p7';have p8:=ok.num.p8;have V1:=ok.num.V1;exact⟨fun r k h=>by have:=(ok.num.naR h).1;omega,fun t h=>by have:=(ok.num.vh h).1;omega⟩
theorem Form.take(ok:tF E)(F:Form E s X){x:Int}{t:Nat}(h:Tk E s x t s'):Form E s' X:=by
 obtain⟨a1,a2⟩:=ok.above;have kd:=h.kinds;refine F.frame h.len ?_ (fun r k q _=>R1 h.len (h.words _ (.inr (a1 r k q)))) fun v h0 h1 u hu=>⟨R1 h.len (h.words _ (.inr (a2 u (F.on v h0 h1 u hu).1))),?_⟩
 ·rw[kd];split<;>simp
 ·rw[kd];split
  ·rfl
  ·rename_i ht;refine getD_set_ne fun e=>?_;have h2:=(F.on v h0 h1 u hu).2.1
   rcases h.vh with q | ⟨-,-,-,q⟩
   ·exact ht q
   ·rw[←e,q] at h2;omega
theorem Form.out(F:Form E s X){t:Nat}(hK:s.K.getD t 0=1)(h0:0≤v)(h1:v<E.V):(t:Int)∉X v:=fun q=>by
 have:=(F.on v h0 h1 _ q).2.1;rw[Int.toNat_natCast] at this;omega
theorem Form.wr(ok:tF E)(F:Form E s X){t:Nat}(ht:ux E.l t)(hK:s.K.getD t 0=1){th val st:Int}:Form E (s.wr E th t key val st) X∧uB E (s.wr E th t key val st).W t=key:=by
 have tw:=ok.num.vh ht;have hW:(s.wr E th t key val st).W=((s.W.set (ta E.l t+0) key).set (ta E.l t+1) val).set (ta E.l t+4) st:=rfl;have w:∀ j:Int,vm (s.wr E th t key val st).W j=if j=(ta E.l t+4:Nat) then st else if j=(ta E.l t+1:Nat) then val else if j=(ta E.l t+0:Nat) then key else vm s.W j:=fun j=>by
  rw[hW,B6 _ (by simp only[List.length_set];have:=F.len;omega),B6 _ (by simp only[List.length_set];have:=F.len;omega),B6 _ (by have:=F.len;omega)]
 refine⟨F.frame (by rw[hW];simp) rfl (fun r k q _=>?_) fun v h0 h1 u hu=>⟨?_,rfl⟩,?_⟩
 ·have n4:=ok.num.naW (w:=4) q ht qi;have n1:=ok.num.naW (w:=1) q ht qi;have n0:=ok.num.naW (w:=0) q ht qi;rw[w,if_neg qJ,if_neg qJ,if_neg qJ]
 ·have hu1:=(F.on v h0 h1 u hu).1;have hne:(t:Int)≠u:=fun e=>F.out hK h0 h1 (by rw[e];exact hu);have tu:=ok.num.vh hu1;have ap:∀ x:Nat,(x:Int)<5+hgt E.l t→ta E.l u+0≠ta E.l t+x:=fun x hx e=>hne (ok.num.apart (w:=0) (x:=x) hu1 ht qJ hx e).1.symm;have n4:=ap 4 qJ;have n1:=ap 1 qJ;have n0:=ap 0 qJ;unfold uB;rw[w,if_neg qJ,if_neg qJ,if_neg qJ]
 ·unfold uB;rw[w,if_neg qJ,if_neg qJ,if_pos qJ]
theorem aeW{P Q:List Int}(hP:∀ u∈P,uB E W u<key)(hQ:∀ u∈Q,¬uB E W u<key):LA E W v key (P++Q)=P.getLastD (-1-v):=by
 unfold LA;generalize -1-v=r
 induction P generalizing r with
 |nil=>
  simp only[List.nil_append,List.getLastD_nil]
  induction Q generalizing r with
  |nil=>rfl
  |cons q Q ih=>rw[List.foldl_cons,if_neg (hQ q (by simp))];exact ih (fun u hu=>hQ u (by simp[hu])) r
 |cons p P ih=>rw[List.cons_append,List.foldl_cons,if_pos (hP p (by simp)),List.getLastD_cons];exact ih (fun u hu=>hP u (by simp[hu])) p
theorem R2{P:List Int}{r:Int}:P.getLastD r=r∨P.getLastD r∈P:=by
 cases P with
 |nil=>exact .inl rfl
 |cons a P=>
  right;rw[List.getLastD_eq_getLast?,List.getLast?_eq_some_getLast (by simp)];exact List.getLast_mem _
theorem abG(ok:tF E)(F:Form E s X)(h0:0≤v)(h1:v<E.V){A B:List Int}(hX:X v=A++B)(hA:∀ u∈A,uB E s.W u<key)(hB:∀ u∈B,¬uB E s.W u<key){t:Nat}(ht:ux E.l t)(hK:s.K.getD t 0=1):∀ m:Nat,(m:Int)≤hgt E.l t→
  (s.E6 E v key t m).W.length=E.sz∧(∀ u,ux E.l u→uB E (s.E6 E v key t m).W u=uB E s.W u)∧∀ v',0≤v'→v'<E.V→∀ k:Nat,k<6→Path E.l (s.E6 E v key t m).W k (-1-v') (I1 E k (if v'=v∧k<m then A++(t:Int)::B else X v'))
 |0,_=>⟨F.len,fun _ _=>rfl,fun v' g0 g1 k hk=>by rw[if_neg qJ];exact F.path v' g0 g1 k hk⟩
 |m+1,hm=>by
  obtain⟨l2,k2,p2⟩:=abG ok F h0 h1 hX hA hB ht hK m qJ;have tw:=ok.num.vh ht;rw[Sd.E6];generalize s.E6 E v key t m=s2 at*;have hout:∀ v',0≤v'→v'<E.V→(t:Int)∉X v':=fun v' g0 g1=>F.out hK g0 g1;have hp:=p2 v h0 h1 m qJ;rw[if_neg qJ,hX,pV] at hp;have hm6:m<6:=by omega
  have hl:wE E.l s2.W v m=I1 E m A++I1 E m B:=aaY ok.num l2 ⟨by omega,by omega⟩ ⟨h0,h1⟩ hp (by rw[←pV,←hX];exact F.nodup h0 h1 m);have hon:=fun u hu=>F.on v h0 h1 u (by rw[hX];exact hu);have hb:LA E s2.W v key (I1 E m A++I1 E m B)=(I1 E m A).getLastD (-1-v):=
   aeW (fun u hu=>by rw[k2 u (hon u (by simp[(z7.1 hu).1])).1];exact hA u (z7.1 hu).1) fun u hu=>by rw[k2 u (hon u (by simp[(z7.1 hu).1])).1];exact hB u (z7.1 hu).1
  have hmt:(m:Int)<hgt E.l t:=by omega
  unfold Sd.ly;rw[hl,hb];have hr:(I1 E m A).getLastD (-1-v) = -1-v∨(I1 E m A).getLastD (-1-v)∈I1 E m A:=R2;have JN:Nd E.l E.V ((I1 E m A).getLastD (-1-v)) m:=by
   rcases hr with q |q
   ·rw[q];exact Po h0 h1 hm6
   ·exact F.nd (v:=v) h0 h1 (by rw[hX,pV];exact List.mem_append_left _ q)
  have hdt:Nd E.l E.V t m:=⟨by omega,.inr ⟨ht,hmt⟩⟩;have put:=Path.put ok.num l2 (k:=(m:Int)) qJ ht hmt (A:=I1 E m A) (B:=I1 E m B) (Po h0 h1 hm6) hp (by have:=ht.1;omega)
   (fun q=>hout v h0 h1 (by rw[hX];rw[←pV] at q;exact(z7.1 q).1)) (fun q=>by rw[←pV] at q;have:=(hon _ (z7.1 q).1).1.1;omega) (by rw[←pV,←hX];exact F.nodup h0 h1 m)
  have l1:=(ok.num.naR JN).2;have l3:=(ok.num.naR hdt).2;have w:∀ j:Int,vm ((s2.W.set (na E.l t m) (vm s2.W (na E.l ((I1 E m A).getLastD (-1-v)) m))).set (na E.l ((I1 E m A).getLastD (-1-v)) m) t) j=if j=na E.l ((I1 E m A).getLastD (-1-v)) m then (t:Int) else if j=na E.l t m then vm s2.W (na E.l ((I1 E m A).getLastD (-1-v)) m) else vm s2.W j:=fun j=>by
   rw[B6 _ (by rw[List.length_set];omega),B6 _ qJ]
  refine⟨by simp only[Sd.st,List.length_set];exact l2,fun u hu=>?_,fun v' g0 g1 k hk=>?_⟩
  ·rw[←k2 u hu];have n1:=ok.num.naW (w:=0) JN hu qi;have n2:=ok.num.naW (w:=0) hdt hu qi;unfold uB;simp only[Sd.st];rw[w,if_neg qJ,if_neg qJ]
  ·simp only[Sd.st];by_cases e:v'=v∧k=m
   ·obtain⟨rfl,rfl⟩:=e;rw[if_pos ⟨rfl,Nat.lt_succ_self _⟩,pV,X7 hmt];exact put
   ·have hc:(v'=v∧k<m+1)↔(v'=v∧k<m):=by omega
    simp only[hc];refine(p2 v' g0 g1 k hk).frame fun u hu=>?_;have hdu:Nd E.l E.V u k∧(u = -1-v'∨(u=t∧v'=v∧k<m)∨u∈X v'):=by
     rcases hu with rfl |hu
     ·exact⟨Po g0 g1 hk,.inl rfl⟩
     ·have q:=z7.1 hu;refine⟨⟨by omega,.inr ⟨?_,q.2⟩⟩,.inr ?_⟩
      ·exact((p2 v' g0 g1 k hk).mem u hu).1
      ·split at q
       ·rename_i c;obtain⟨rfl,c⟩:=c
        rcases List.mem_append.1 q.1 with z |z
        ·exact .inr (by rw[hX];simp[z])
        ·rcases List.mem_cons.1 z with z |z
         ·exact .inl ⟨z,rfl,c⟩
         ·exact .inr (by rw[hX];simp[z])
       ·exact .inr q.1
    obtain⟨hdu,hu⟩:=hdu;rw[w,if_neg fun q=>?_,if_neg fun q=>?_]
    rotate_left
    ·have z:=ok.num.X5 hdu JN (Int.ofNat_inj.1 q);have hkm:k=m:=by omega
     rcases hu with hu | ⟨hu,hv,hk2⟩ |hu
     ·rcases hr with hr |hr
      ·omega
      ·have:=(F.nd (v:=v) h0 h1 (by rw[hX,pV];exact List.mem_append_left _ hr)).2;have hT:=(hon ((I1 E m A).getLastD (-1-v)) (List.mem_append_left _ (z7.1 hr).1)).1.1;omega
     ·omega
     ·rcases hr with hr |hr
      ·have:=(F.on v' g0 g1 u hu).1.1;omega
      ·have e1:=(F.on v' g0 g1 u hu).2.2;have e2:=(hon _ (List.mem_append_left _ (z7.1 hr).1)).2.2;rw[←z.1,e1] at e2;omega
    ·have z:=ok.num.X5 hdu hdt (Int.ofNat_inj.1 q)
     rcases hu with hu | ⟨hu,hv,hk2⟩ |hu
     ·have:=ht.1;omega
     ·omega
     ·exact hout v' g0 g1 (by rw[←z.1];exact hu)
theorem aai{L:List Int}(h:L.Pairwise fun t u=>uB E W t<uB E W u):∃ A B,L=A++B∧(∀ u∈A,uB E W u<key)∧∀ u∈B,¬uB E W u<key:=by
 induction L with
 |nil=>exact⟨[],[],rfl,by simp,by simp⟩
 |cons t L ih=>
  obtain⟨p,q⟩:=List.pairwise_cons.1 h;by_cases c:uB E W t<key
  ·obtain⟨A,B,rfl,hA,hB⟩:=ih q;refine⟨t::A,B,rfl,fun u hu=>?_,hB⟩
   rcases List.mem_cons.1 hu with rfl |hu
   ·exact c
   ·exact hA u hu
  ·refine⟨[],t::L,rfl,by simp,fun u hu=>?_⟩
   rcases List.mem_cons.1 hu with rfl |hu
   ·exact c
   ·have:=p u hu;omega
theorem Form.step(ok:tF E)(F:Form E s X){val x:Int}(hk:0≤key)(h:wH E s key val x s'):∃ X',Form E s' X'∧∀ v,(X' v).length≤(X v).length+1:=by
 cases h with
 |has h=>exact⟨X,F,fun _=>Nat.le_succ _⟩
 |none h k=>exact⟨X,F.take ok k,fun _=>Nat.le_succ _⟩
 | @laid s1 t h ht0 k=>
  obtain⟨h0,h1⟩:=Ev.AY ok hk;have F1:=F.take ok k;obtain h2 | ⟨g1,g2,g3,g4⟩:=k.vh
  ·exact absurd h2 ht0
  have hT:ux E.l t:=⟨by omega,by omega⟩;have hx:hgt E.l t=x:=by unfold hgt;rw[show ((t:Int)-1).toNat=t-1 by omega];exact g3
  have hK1:s1.K.getD t 0=1:=by rw[k.kinds,if_neg ht0];simp only[List.getD];rw[List.getElem?_set_self (by have:=F.kl;omega)];rfl
  obtain⟨F2,hkt⟩:=F1.wr ok (key:=key) (th:=0) (val:=val) (st:=1) hT hK1;have hno:∀ u∈X (E.val key),uB E (s1.wr E 0 t key val 1).W u≠key:=fun u hu e=>by
   have hl:=F.wE ok h0 h1 (k:=0) qi;rw[abt ok fun t ht=>(F.on _ h0 h1 t ht).1] at hl;unfold HN at h;rw[show ((0:Nat):Int)=0 from rfl] at hl;rw[hl,List.any_eq_false] at h;refine h u hu (decide_eq_true ?_);obtain⟨a1,a2⟩:=ok.above;have hu1:=(F.on _ h0 h1 u hu).1;have e1:uB E s1.W u=uB E s.W u:=R1 k.len (k.words _ (.inr (a2 u hu1)));have e2:uB E (s1.wr E 0 t key val 1).W u=uB E s1.W u:=by
    have tw:=ok.num.vh hT;have tu:=ok.num.vh hu1;have hne:(t:Int)≠u:=fun e=>F1.out hK1 h0 h1 (by rw[e];exact hu);have ap:∀ x:Nat,(x:Int)<5+hgt E.l t→ta E.l u+0≠ta E.l t+x:=fun x hx e=>hne (ok.num.apart (w:=0) (x:=x) hu1 hT qJ hx e).1.symm;have n4:=ap 4 qJ;have n1:=ap 1 qJ;have n0:=ap 0 qJ
    show vm (((s1.W.set (ta E.l t+0) key).set (ta E.l t+1) val).set (ta E.l t+4) 1) _=_
    rw[B6 _ (by simp only[List.length_set];have:=F1.len;omega),B6 _ (by simp only[List.length_set];have:=F1.len;omega),B6 _ (by have:=F1.len;omega),if_neg qJ,if_neg qJ,if_neg qJ];rfl
   rw[←e1,←e2];exact e
  obtain⟨A,B,hX,hA,hB⟩:=aai (key:=key) (F2.yt _ h0 h1);have hK2:(s1.wr E 0 t key val 1).K.getD t 0=1:=hK1;obtain⟨l3,k3,p3⟩:=abG ok F2 h0 h1 hX hA hB hT hK2 x.toNat (by have:=ok.num.vh hT;omega);have tw:=ok.num.vh hT;have hKK:=@Xt E (s1.wr E 0 t key val 1) (E.val key) key t x.toNat;refine⟨fun v'=>if v'=E.val key then A++(t:Int)::B else X v',⟨l3,?_,fun v' g0 g1 k hk6=>?_,fun v' g0 g1=>?_,fun v' g0 g1 u hu=>?_⟩,fun v'=>?_⟩
  rotate_right
  ·show (if v'=E.val key then A++(t:Int)::B else X v').length≤_
   split
   ·rename_i c;subst c;rw[hX];simp;omega
   ·exact Nat.le_succ _
  ·show ((Sd.E6 E (s1.wr E 0 t key val 1) (E.val key) key t x.toNat).K.set t 2).length=_
   rw[List.length_set,hKK];exact F2.kl
  ·have p:=p3 v' g0 g1 k hk6
   show Path E.l (Sd.E6 E (s1.wr E 0 t key val 1) (E.val key) key t x.toNat).W k (-1-v') (I1 E k (if v'=E.val key then A++(t:Int)::B else X v'))
   by_cases c:v'=E.val key
   ·subst c;rw[if_pos rfl];by_cases c2:k<x.toNat
    ·rw[if_pos ⟨rfl,c2⟩] at p;exact p
    ·rw[if_neg qJ,hX] at p;have:I1 E k (A++(t:Int)::B)=I1 E k (A++B):=by
      rw[pV,pV];unfold I1;rw[List.filter_cons_of_neg (by simp;omega)]
     rw[this];exact p
   ·rw[if_neg c];rw[if_neg qJ] at p;exact p
  ·show List.Pairwise (fun t' u=>uB E (Sd.E6 E (s1.wr E 0 t key val 1) (E.val key) key t x.toNat).W t'<uB E (Sd.E6 E (s1.wr E 0 t key val 1) (E.val key) key t x.toNat).W u) (if v'=E.val key then A++(t:Int)::B else X v')
   by_cases c:v'=E.val key
   ·subst c;rw[if_pos rfl];have as2:=F2.yt _ h0 h1;have hon:=fun u hu=>F2.on _ h0 h1 u (by rw[hX];exact hu);rw[hX] at as2;obtain⟨q1,q2,q3⟩:=List.pairwise_append.1 as2;refine List.pairwise_append.2 ⟨?_,List.pairwise_cons.2 ⟨fun u hu=>?_,?_⟩,fun a ha b hb=>?_⟩
    ·exact q1.imp_of_mem fun {a b} ha hb q=>by rw[k3 a (hon a (by simp[ha])).1,k3 b (hon b (by simp[hb])).1];exact q
    ·rw[k3 _ hT,k3 u (hon u (by simp[hu])).1,hkt];have:=hB u hu;have:=hno u (by rw[hX];simp[hu]);omega
    ·exact q2.imp_of_mem fun {a b} ha hb q=>by rw[k3 a (hon a (by simp[ha])).1,k3 b (hon b (by simp[hb])).1];exact q
    ·rcases List.mem_cons.1 hb with rfl |hb
     ·rw[k3 _ hT,k3 a (hon a (by simp[ha])).1,hkt];exact hA a ha
     ·rw[k3 a (hon a (by simp[ha])).1,k3 b (hon b (by simp[hb])).1];exact q3 a ha b hb
   ·rw[if_neg c];exact(F2.yt v' g0 g1).imp_of_mem fun {a b} ha hb q=>by rw[k3 a (F2.on v' g0 g1 a ha).1,k3 b (F2.on v' g0 g1 b hb).1];exact q
  ·show ux E.l u∧((Sd.E6 E (s1.wr E 0 t key val 1) (E.val key) key t x.toNat).K.set t 2).getD u.toNat 0=2∧E.val (uB E (Sd.E6 E (s1.wr E 0 t key val 1) (E.val key) key t x.toNat).W u)=v'
   have hu:u∈if v'=E.val key then A++(t:Int)::B else X v':=hu
   have old:∀ u∈X v',ux E.l u∧((Sd.E6 E (s1.wr E 0 t key val 1) (E.val key) key t x.toNat).K.set t 2).getD u.toNat 0=2∧E.val (uB E (Sd.E6 E (s1.wr E 0 t key val 1) (E.val key) key t x.toNat).W u)=v':=fun u hu=>by
    obtain⟨b1,b2,b3⟩:=F2.on v' g0 g1 u hu;refine⟨b1,?_,by rw[k3 u b1];exact b3⟩;rw[hKK,getD_set_ne fun e=>?_]
    ·exact b2
    ·rw[←e,hK2] at b2;omega
   by_cases c:v'=E.val key
   ·subst c;rw[if_pos rfl] at hu
    rcases List.mem_append.1 hu with z |z
    ·exact old u (by rw[hX];simp[z])
    ·rcases List.mem_cons.1 z with rfl |z
     ·refine⟨hT,?_,by rw[k3 _ hT,hkt]⟩;rw[hKK,Int.toNat_natCast];simp only[List.getD];rw[List.getElem?_set_self (by have:=F2.kl;omega)];rfl
     ·exact old u (by rw[hX];simp[z])
   ·rw[if_neg c] at hu;exact old u hu
theorem Form.yL(ok:tF E)(hl:(Sd.yL E).W.length=E.sz):Form E (Sd.yL E) fun _=>[]:=by
 have hn:=ok.num;refine⟨hl,by simp[Sd.yL],fun v h0 h1 k hk=>?_,fun _ _ _ => .nil,fun _ _ _ t ht=>by simp at ht⟩;have hR:=hn.naR (Po h0 h1 hk);have hlt:na E.l (-1-v) k<(Sd.yL E).W.length:=by rw[hl];exact hR.2
 show vm (pK E.l) (na E.l (-1-v) k)=0
 rw[iJ (W:=pK E.l) hlt];have i5:=hn.yL.p5;have i6:=hn.yL.p6;have p7':=hn.p7';have h9:=hn.p9;have:(pK E.l)[na E.l (-1-v) k]? = some 0:=by
  unfold pK;rw[EB qJ];unfold qK;rw[if_neg qJ,if_neg qJ]
 have e:=List.getElem?_eq_getElem (l:=pK E.l) hlt;rw[this] at e;exact(Option.some.inj e).symm
theorem Form.aeX(ok:tF E){A:List (List Int)}(hA:kO ksL A){i:Nat}(hi:i≤A.length)(F:Form E s X)(h:Laid E A s i s'):∃ X',Form E s' X'∧∀ v,(X' v).length≤(X v).length+i:=by
 induction h with
 |zero=>exact⟨X,F,fun _=>Nat.le_refl _⟩
 | @succ i s1 s2 h e ih=>
  obtain⟨X1,F1,l1⟩:=ih qJ;obtain⟨-,-,-,v3,-⟩:=agE hA (show i<A.length by omega);obtain⟨X2,F2,l2⟩:=F1.step ok v3.1 e;exact⟨X2,F2,fun v=>by have:=l1 v;have:=l2 v;omega⟩
end
end Go.Proofs.YtofmbmclopgldaaGreat
namespace Go.Proofs.YtofmbmclopgldaaGreat
open Go.Am
def I5(E:Ev)(W:List Int)(key:Int):Nat→SS→SS
 |0,s=>s
 |n+1,s=>I5 E W key n (s.step E key (vm W (s.ad E)))
theorem X8{E:Ev}{W:List Int}{key:Int}:∀ {n:Nat} {s:SS},I5 E W key (n+1) s=(I5 E W key n s).step E key (vm W ((I5 E W key n s).ad E))
 |0,s=>rfl
 |n+1,s=>by rw[I5,X8 (n:=n)];rfl
section
variable {E:Ev} {s:Sd} {X:Int→List Int} {W:List Int} {v key t:Int} {A B:List Int}
theorem Path.skip{k:Int}:∀ {P Q:List Int} {r:Int},Path E.l W k r (P++Q)→Path E.l W k (P.getLastD r) Q
 | [],Q,r,h=>h
 |a::P,Q,r,⟨_,_,_,h⟩=>by rw[List.getLastD_cons];exact Path.skip h
theorem Path.head{k:Int}{Q:List Int}{r:Int}(h:Path E.l W k r Q):vm W (na E.l r k)=Q.headD 0:=by
 cases Q with
 |nil=>exact h
 |cons a Q=>exact h.1
theorem abQ{k:Nat}{P:List Int}{r:Int}(h:P≠[]→(k:Int)<hgt E.l (P.getLastD r)):(I1 E k P).getLastD r=P.getLastD r:=by
 rcases List.eq_nil_or_concat P with rfl | ⟨P',a,rfl⟩
 ·rfl
 ·have q:=h (by simp);rw[List.concat_eq_append] at q ⊢;rw[List.getLastD_eq_getLast?,List.getLast?_concat,Option.getD_some] at q;rw[pV,X7 q];simp[I1,List.getLastD_eq_getLast?]
def tgt(E:Ev)(W:List Int)(key:Int)(B:List Int):Int:=if B≠[]∧uB E W (B.headD 0)=key then B.headD 0 else 0
structure SrI(E:Ev)(W:List Int)(v key:Int)(A B A1 A2:List Int)(s:SS):Prop where
 ok:rN E s
 eA:A=A1++A2
 nd:s.pc≠0→s.nd=A1.getLastD (-1-v)
 hg:s.pc≠0→A1≠[]→(s.lv:Int)<hgt E.l (A1.getLastD (-1-v))
 c:s.pc=22→s.c=(I1 E s.lv A2++I1 E s.lv B).headD 0∧I1 E s.lv A2++I1 E s.lv B≠[]
 done:∀ k:Nat,k<6→s.pc=0∨s.lv<k→s.bf[k]? = some ((I1 E k A).getLastD (-1-v))∧s.af[k]? = some ((I1 E k B).headD 0)
 fo:s.fo=if tgt E W key B≠0∧(s.pc=0∨(s.lv:Int)+1<hgt E.l (tgt E W key B)) then tgt E W key B else 0
def msr(s:SS)(A2:List Int):Nat:=if s.pc=0 then 0 else if s.pc=21 then 2*A2.length+2*(s.lv+1) else 2*A2.length+2*s.lv+1
def lft(s:SS):Nat:=if s.pc=0 then 0 else s.lv+1
theorem Nx{L:List Int}(h:L≠[]):∃ a r,L=a::r∧L.headD 0=a:=by
 cases L with
 |nil=>exact absurd rfl h
 |cons a r=>exact⟨a,r,rfl,rfl⟩
theorem SrI.ends{A1 A2:List Int}{s:SS}{c fo:Int}(H:SrI E W v key A B A1 A2 s)(hp:s.pc≠0)(h2:I1 E s.lv A2=[])(hc:c=(I1 E s.lv B).headD 0)(hfo:fo=if tgt E W key B≠0∧(s.lv:Int)<hgt E.l (tgt E W key B) then tgt E W key B else 0)
  (EV:tgt E W key B≠0→1≤hgt E.l (tgt E W key B)):SrI E W v key A B A1 A2 (SS.ends ⟨s.pc,s.nd,s.lv,c,s.bf,s.af,fo⟩)∧msr (SS.ends ⟨s.pc,s.nd,s.lv,c,s.bf,s.af,fo⟩) A2≤2*A2.length+2*s.lv∧s.lv≤lft (SS.ends ⟨s.pc,s.nd,s.lv,c,s.bf,s.af,fo⟩):=by
 obtain⟨o,eA,nd,hg,FU,dn,hf⟩:=H;have hn:=nd hp;have hg':=hg hp;have hb:(I1 E s.lv A).getLastD (-1-v)=s.nd:=by rw[eA,pV,h2,List.append_nil,hn];exact abQ hg'
 have e1:(SS.ends ⟨s.pc,s.nd,s.lv,c,s.bf,s.af,fo⟩)=⟨if s.lv=0 then 0 else 21,s.nd,s.lv-1,c,s.bf.set s.lv s.nd,s.af.set s.lv c,fo⟩:=rfl;refine⟨⟨rN.ends o.lv o.bf o.af (o.nd hp),eA,fun _=>hn,fun _ hne=>?_,fun q=>?_,fun k hk q=>?_,?_⟩,?_,?_⟩
 ·have:=hg' hne
  show ((s.lv-1:Nat):Int)<_
  omega
 ·exfalso;have q':(if s.lv=0 then (0:Int) else 21)=22:=q;split at q'<;>omega
 ·show (s.bf.set s.lv s.nd)[k]? = _∧(s.af.set s.lv c)[k]? = _
  by_cases e:s.lv=k
  ·subst e;rw[List.getElem?_set_self (by rw[o.bf];exact o.lv),List.getElem?_set_self (by rw[o.af];exact o.lv),hb,hc];exact⟨rfl,rfl⟩
  ·rw[List.getElem?_set_ne e,List.getElem?_set_ne e];refine dn k hk (.inr ?_)
   rcases q with q |q
   ·have q':(if s.lv=0 then (0:Int) else 21)=0:=q;split at q'<;>omega
   ·have q':s.lv-1<k:=q;omega
 ·show fo=if tgt E W key B≠0∧((if s.lv=0 then (0:Int) else 21)=0∨((s.lv-1:Nat):Int)+1<hgt E.l (tgt E W key B)) then tgt E W key B else 0
  rw[hfo];by_cases e:s.lv=0
  ·rw[e];by_cases c0:tgt E W key B=0
   ·rw[if_neg (fun q=>q.1 c0),if_neg (fun q=>q.1 c0)]
   ·have:=EV c0;rw[if_pos ⟨c0,by omega⟩,if_pos ⟨c0,.inl rfl⟩]
  ·have hiff:(tgt E W key B≠0∧((if s.lv=0 then (0:Int) else 21)=0∨((s.lv-1:Nat):Int)+1<hgt E.l (tgt E W key B)))↔(tgt E W key B≠0∧(s.lv:Int)<hgt E.l (tgt E W key B)):=by
    rw[if_neg e];have:((s.lv-1:Nat):Int)+1=s.lv:=by omega
    rw[this];simp
   simp only[hiff]
 ·rw[e1];unfold msr;simp only;by_cases e:s.lv=0
  ·rw[if_pos e];simp
  ·rw[if_neg e];simp;omega
 ·rw[e1];unfold lft;simp only;by_cases e:s.lv=0
  ·rw[if_pos e];simp[e]
  ·rw[if_neg e];simp;omega
theorem agw(hB:B.Pairwise fun t u=>uB E W t<uB E W u)(hge:∀ u∈B,¬uB E W u<key)(hT:∀ u∈B,ux E.l u){u:Int}(hu:u∈B)(hk:uB E W u=key):tgt E W key B=u:=by
 cases B with
 |nil=>simp at hu
 |cons b B=>
  obtain⟨p,-⟩:=List.pairwise_cons.1 hB
  rcases List.mem_cons.1 hu with rfl |hu
  ·unfold tgt;rw[if_pos ⟨by simp,hk⟩];rfl
  ·have:=p u hu;have:=hge b (by simp);omega
theorem aat(h:tgt E W key B≠0):tgt E W key B∈B∧uB E W (tgt E W key B)=key:=by
 unfold tgt at h ⊢;split at h
 ·rename_i c;rw[if_pos c];obtain⟨a,r,rfl,e⟩:=Nx c.1;rw[e] at c ⊢;exact⟨by simp,c.2⟩
 ·exact absurd rfl h
theorem SrI.step(ok:tF E)(F:Form E s X)(h0:0≤v)(h1:v<E.V)(hX:X v=A++B)(hA:∀ u∈A,uB E s.W u<key)(hB:∀ u∈B,¬uB E s.W u<key){A1 A2:List Int}{x:SS}(H:SrI E s.W v key A B A1 A2 x)(hp:x.pc≠0):
  ∃ A1' A2',SrI E s.W v key A B A1' A2' (x.step E key (vm s.W (x.ad E)))∧msr (x.step E key (vm s.W (x.ad E))) A2'<msr x A2∧lft x≤lft (x.step E key (vm s.W (x.ad E)))+1:=by
 have hon:=fun u hu=>F.on v h0 h1 u (by rw[hX];exact hu);have lv6:=H.ok.lv;have ad3:=F.path v h0 h1 x.lv lv6;have acC:=H.eA;rw[hX,acC,List.append_assoc,pV,pV] at ad3;have hnd:=H.nd hp;have hhg:=H.hg hp;have PA:(I1 E x.lv A1).getLastD (-1-v)=x.nd:=by rw[hnd];exact abQ hhg
 have hs:=ad3.skip;rw[PA] at hs;have asB:B.Pairwise fun t u=>uB E s.W t<uB E s.W u:=by have:=F.yt v h0 h1;rw[hX] at this;exact(List.pairwise_append.1 this).2.1
 have hTB:∀ u∈B,ux E.l u:=fun u hu=>(hon u (by simp[hu])).1;have EV:tgt E s.W key B≠0→1≤hgt E.l (tgt E s.W key B):=fun q=>(ok.num.vh (hTB _ (aat q).1)).2.2.2.1;have hfo:∀ (q:I1 E x.lv B=[]∨∃ b r,I1 E x.lv B=b::r∧uB E s.W b≠key),x.fo=if tgt E s.W key B≠0∧(x.lv:Int)<hgt E.l (tgt E s.W key B) then tgt E s.W key B else 0:=fun q=>by
  have hno: ¬ (tgt E s.W key B≠0∧(x.lv:Int)<hgt E.l (tgt E s.W key B)):=fun ⟨c1,c2⟩=>by
   obtain⟨m1,m2⟩:=aat c1;have m3:tgt E s.W key B∈I1 E x.lv B:=z7.2 ⟨m1,c2⟩
   rcases q with q | ⟨b,r,q,hne⟩
   ·rw[q] at m3;simp at m3
   ·have hb:b∈B:=(z7.1 (by rw[q];simp)).1;have as2:=asB.sublist (List.filter_sublist (p:=fun t=>decide ((x.lv:Int)<hgt E.l t)));change (I1 E x.lv B).Pairwise _ at as2;rw[q] at m3 as2
    rcases List.mem_cons.1 m3 with e |e
    ·rw[e] at m2;exact hne m2
    ·have:=(List.pairwise_cons.1 as2).1 _ e;have:=hB b hb;omega
  rw[if_neg hno,H.fo,if_neg];rintro ⟨c1,c2⟩
  rcases c2 with c2 |c2
  ·exact hp c2
  ·exact hno ⟨c1,by omega⟩
 rcases H.ok.pc with c0 |c21 |c22
 ·exact absurd c0 hp
 ·
  have had:x.ad E=na E.l x.nd x.lv:=if_pos c21;have hw:vm s.W (x.ad E)=(I1 E x.lv A2++I1 E x.lv B).headD 0:=by rw[had];exact hs.head
  have hst:x.step E key (vm s.W (x.ad E))=x.nx E (vm s.W (x.ad E)):=if_pos c21;rw[hst,hw];have hm:msr x A2=2*A2.length+2*(x.lv+1):=by unfold msr;rw[if_neg hp,if_pos c21]
  have hl:lft x=x.lv+1:=if_neg hp;by_cases hne:I1 E x.lv A2++I1 E x.lv B=[]
  ·obtain⟨n1,n2⟩:=List.append_eq_nil_iff.1 hne;have e0:Jt E ((I1 E x.lv A2++I1 E x.lv B).headD 0) x.lv=0:=by rw[hne];unfold Jt;rw[if_neg (by simp)]
   unfold SS.nx;rw[if_pos e0];obtain⟨a,b,c⟩:=H.ends (c:=0) (fo:=x.fo) hp n1 (by rw[n2];rfl) (hfo (.inl n2)) EV;exact⟨A1,A2,a,by omega,by omega⟩
  ·obtain⟨b,r,hb,hbd⟩:=Nx hne;have hbm:b∈I1 E x.lv A2++I1 E x.lv B:=by rw[hb];simp
   have mT:ux E.l b∧(x.lv:Int)<hgt E.l b:=by
    rcases List.mem_append.1 hbm with q |q
    ·exact⟨(hon b (by rw[acC];simp[(z7.1 q).1])).1,(z7.1 q).2⟩
    ·exact⟨hTB b (z7.1 q).1,(z7.1 q).2⟩
   have e1:Jt E b x.lv=b:=by unfold Jt;rw[if_pos ⟨mT.1,mT.2⟩]
   have b0:b≠0:=by have:=mT.1.1;omega
   unfold SS.nx;rw[hbd,e1,if_neg b0];refine⟨A1,A2,⟨⟨H.ok.lv,H.ok.bf,H.ok.af,.inr (.inr rfl),fun _=>H.ok.nd hp,fun _=>mT⟩,acC,fun _=>hnd,fun _=>hhg,fun _=>⟨hbd.symm,hne⟩,fun k hk q=>H.done k hk (.inr ?_),?_⟩,?_,?_⟩
   ·rcases q with q |q
    ·exact absurd q (by show ¬(22:Int)=0;decide)
    ·exact q
   ·show x.fo=if tgt E s.W key B≠0∧((22:Int)=0∨(x.lv:Int)+1<hgt E.l (tgt E s.W key B)) then tgt E s.W key B else 0
    rw[H.fo];have hiff:(tgt E s.W key B≠0∧(x.pc=0∨(x.lv:Int)+1<hgt E.l (tgt E s.W key B)))↔(tgt E s.W key B≠0∧((22:Int)=0∨(x.lv:Int)+1<hgt E.l (tgt E s.W key B))):=by
     constructor
     ·rintro ⟨a,b |b⟩
      ·exact absurd b hp
      ·exact⟨a,.inr b⟩
     ·rintro ⟨a,b |b⟩
      ·exact absurd b qi
      ·exact⟨a,.inr b⟩
    simp only[hiff]
   ·rw[hm]
    show 2*A2.length+2*x.lv+1<_
    omega
   ·rw[hl]
    show x.lv+1≤x.lv+1+1
    omega
 ·
  have c21: ¬ x.pc=21:=by omega
  have had:x.ad E=ta E.l x.c:=if_neg c21;have hw:vm s.W (x.ad E)=uB E s.W x.c:=by rw[had];rfl
  have hst:x.step E key (vm s.W (x.ad E))=x.lk key (vm s.W (x.ad E)):=by unfold SS.step;rw[if_neg c21,if_pos c22]
  rw[hst,hw];have hm:msr x A2=2*A2.length+2*x.lv+1:=by unfold msr;rw[if_neg hp,if_neg c21]
  have hl:lft x=x.lv+1:=if_neg hp;obtain⟨ec,hne⟩:=H.c c22;by_cases hA2:I1 E x.lv A2=[]
  ·rw[hA2,List.nil_append] at ec hne;obtain⟨b,r,hb,hbd⟩:=Nx hne;have hbB:b∈B:=(z7.1 (by rw[hb];simp)).1;rw[hbd] at ec;have hge:=hB b hbB;unfold SS.lk;rw[ec,if_neg hge];obtain⟨p,q,r'⟩:=H.ends (c:=b) (fo:=if uB E s.W b=key∧x.fo=0 then b else x.fo) hp hA2 hbd.symm (by
    show (if uB E s.W b=key∧x.fo=0 then b else x.fo)=_
    by_cases ck:uB E s.W b=key
    ·have et:=agw asB hB hTB hbB ck;have hbh:=(z7.1 (show b∈I1 E x.lv B by rw[hb];simp)).2;have b0:b≠0:=by have:=(hTB b hbB).1;omega
     by_cases cf:x.fo=0
     ·rw[if_pos ⟨ck,cf⟩,et,if_pos ⟨b0,hbh⟩]
     ·rw[if_neg (fun q=>cf q.2),et,if_pos ⟨b0,hbh⟩];have e:=H.fo;rw[et] at e;split at e
      ·exact e
      ·exact absurd e cf
    ·rw[if_neg (fun q=>ck q.1)];exact hfo (.inr ⟨b,r,hb,ck⟩)) EV
   exact⟨A1,A2,p,by omega,by omega⟩
  ·
   obtain⟨P,Q,c,hPQ,hP⟩:∃ P Q c,A2=P++c::Q∧I1 E x.lv P=[]∧(x.lv:Int)<hgt E.l c:=by
    clear ec hne hs ad3 acC hm H
    induction A2 with
    |nil=>exact absurd rfl hA2
    |cons a A2 ih=>
     by_cases ca:(x.lv:Int)<hgt E.l a
     ·exact⟨[],A2,a,rfl,rfl,ca⟩
     ·have e:I1 E x.lv (a::A2)=I1 E x.lv A2:=List.filter_cons_of_neg (by simpa using ca);obtain⟨P,Q,c,rfl,hP,hc⟩:=ih (by rw[←e];exact hA2);exact⟨a::P,Q,c,rfl,by unfold I1 at hP ⊢;rw[List.filter_cons_of_neg (by simpa using ca)];exact hP,hc⟩
   subst hPQ;have ec2:x.c=c:=by rw[ec,pV,hP.1,X7 hP.2];rfl
   have hcA:c∈A:=by rw[acC];simp
   have hlt:=hA c hcA;have hcT:=(hon c (by simp[hcA])).1;unfold SS.lk;rw[ec2,if_pos hlt];have ab':(A1++P++[c]).getLastD (-1-v)=c:=by rw[List.getLastD_eq_getLast?,List.getLast?_concat];rfl
   refine⟨A1++P++[c],Q,⟨⟨H.ok.lv,H.ok.bf,H.ok.af,.inr (.inl rfl),fun _=>⟨by show (0:Int)≤(x.lv:Int);omega,.inr ⟨hcT,hP.2⟩⟩,fun q=>absurd q (by show ¬(21:Int)=22;decide)⟩,by rw[acC];simp,fun _=>ab'.symm,fun _ _=>by rw[ab'];exact hP.2,fun q=>absurd q (by show ¬(21:Int)=22;decide),fun k hk q=>H.done k hk (.inr ?_),?_⟩,?_,?_⟩
   ·rcases q with q |q
    ·exact absurd q (by show ¬(21:Int)=0;decide)
    ·exact q
   ·show x.fo=if tgt E s.W key B≠0∧((21:Int)=0∨(x.lv:Int)+1<hgt E.l (tgt E s.W key B)) then tgt E s.W key B else 0
    rw[H.fo];have hiff:(tgt E s.W key B≠0∧(x.pc=0∨(x.lv:Int)+1<hgt E.l (tgt E s.W key B)))↔(tgt E s.W key B≠0∧((21:Int)=0∨(x.lv:Int)+1<hgt E.l (tgt E s.W key B))):=by
     constructor
     ·rintro ⟨a,b |b⟩
      ·exact absurd b hp
      ·exact⟨a,.inr b⟩
     ·rintro ⟨a,b |b⟩
      ·exact absurd b qi
      ·exact⟨a,.inr b⟩
    simp only[hiff]
   ·rw[hm]
    show 2*Q.length+2*(x.lv+1)<_
    simp only[List.length_append,List.length_cons];omega
   ·rw[hl]
    show x.lv+1≤x.lv+1+1
    omega
theorem SrI.new(h0:0≤v)(h1:v<E.V)(ok:tF E)(hTB:∀ u∈B,ux E.l u):SrI E W v key A B [] A (SS.new v):=by
 refine⟨rN.new ⟨h0,h1⟩,rfl,fun _=>rfl,fun _ q=>absurd rfl q,fun q=>absurd q (by show ¬(21:Int)=22;decide),fun k hk q=>?_,?_⟩
 ·rcases q with q |q
  ·exact absurd q (by show ¬(21:Int)=0;decide)
  ·have:5<k:=q;omega
 ·show (0:Int)=if tgt E W key B≠0∧((21:Int)=0∨((5:Nat):Int)+1<hgt E.l (tgt E W key B)) then tgt E W key B else 0
  rw[if_neg];rintro ⟨a,b |b⟩
  ·exact absurd b qi
  ·have:=(ok.num.vh (hTB _ (aat a).1)).2.2.2.2;omega
theorem abT(ok:tF E)(F:Form E s X)(h0:0≤v)(h1:v<E.V)(hX:X v=A++B)(hA:∀ u∈A,uB E s.W u<key)(hB:∀ u∈B,¬uB E s.W u<key):
  ∃ N A1 A2,(I5 E s.W key N (SS.new v)).pc=0∧(∀ i,i<N→(I5 E s.W key i (SS.new v)).pc≠0)∧(∀ i,i≤N→rN E (I5 E s.W key i (SS.new v)))∧SrI E s.W v key A B A1 A2 (I5 E s.W key N (SS.new v))∧N≤2*A.length+12∧6≤N∧∀ i,i<N→∃ B1 B2,SrI E s.W v key A B B1 B2 (I5 E s.W key i (SS.new v)):=by
 have hTB:∀ u∈B,ux E.l u:=fun u hu=>(F.on v h0 h1 u (by rw[hX];simp[hu])).1;have key2:∀ (m i:Nat) (A1 A2:List Int),SrI E s.W v key A B A1 A2 (I5 E s.W key i (SS.new v))→msr (I5 E s.W key i (SS.new v)) A2≤m→msr (I5 E s.W key i (SS.new v)) A2+i≤2*A.length+12→6≤lft (I5 E s.W key i (SS.new v))+i→(∀ j,j<i→(I5 E s.W key j (SS.new v)).pc≠0)→(∀ j,j<i→∃ B1 B2,SrI E s.W v key A B B1 B2 (I5 E s.W key j (SS.new v)))→
   ∃ N A1 A2,(I5 E s.W key N (SS.new v)).pc=0∧(∀ i,i<N→(I5 E s.W key i (SS.new v)).pc≠0)∧(∀ i,i≤N→rN E (I5 E s.W key i (SS.new v)))∧SrI E s.W v key A B A1 A2 (I5 E s.W key N (SS.new v))∧N≤2*A.length+12∧6≤N∧∀ i,i<N→∃ B1 B2,SrI E s.W v key A B B1 B2 (I5 E s.W key i (SS.new v)):=by
  intro m
  induction m with
  |zero=>
   intro i A1 A2 H hm hb hl hj hk;by_cases hp:(I5 E s.W key i (SS.new v)).pc=0
   ·refine⟨i,A1,A2,hp,hj,fun j hji=>?_,H,by omega,?_,hk⟩
    ·rcases Nat.lt_or_eq_of_le hji with q |q
     ·obtain⟨_,_,q2⟩:=hk j q;exact q2.ok
     ·rw[q];exact H.ok
    ·have:lft (I5 E s.W key i (SS.new v))=0:=if_pos hp;omega
   ·obtain⟨A1',A2',H',hlt,-⟩:=H.step ok F h0 h1 hX hA hB hp;omega
  |succ m ih=>
   intro i A1 A2 H hm hb hl hj hk;by_cases hp:(I5 E s.W key i (SS.new v)).pc=0
   ·refine⟨i,A1,A2,hp,hj,fun j hji=>?_,H,by omega,?_,hk⟩
    ·rcases Nat.lt_or_eq_of_le hji with q |q
     ·obtain⟨_,_,q2⟩:=hk j q;exact q2.ok
     ·rw[q];exact H.ok
    ·have:lft (I5 E s.W key i (SS.new v))=0:=if_pos hp;omega
   ·obtain⟨A1',A2',H',hlt,hlf⟩:=H.step ok F h0 h1 hX hA hB hp;rw[←X8] at H' hlt hlf;refine ih (i+1) A1' A2' H' qJ qJ qJ (fun j hji=>?_) fun j hji=>?_
    ·rcases Nat.lt_or_eq_of_le (Nat.lt_succ_iff.1 hji) with q |q
     ·exact hj j q
     ·rw[q];exact hp
    ·rcases Nat.lt_or_eq_of_le (Nat.lt_succ_iff.1 hji) with q |q
     ·exact hk j q
     ·rw[q];exact⟨A1,A2,H⟩
 refine key2 (2*A.length+12) 0 [] A (SrI.new h0 h1 ok hTB) ?_ ?_ (by show 6≤5+1+0;omega) (fun j hj=>by omega) fun j hj=>by omega
 ·show 2*A.length+2*(5+1)≤_;omega
 ·show 2*A.length+2*(5+1)+0≤_;omega
end
end Go.Proofs.YtofmbmclopgldaaGreat
namespace Go.Proofs.YtofmbmclopgldaaGreat
open Go.Am Go.Proofs.Tryz
def Sd.lds(E:Ev)(s:Sd)(th key:Int)(x:SS):Nat→Sd
 |0=>s
 |n+1=>(Sd.lds E s th key x n).ld th ((I5 E s.W key n x).ad E)
theorem acn{E:Ev}{s:Sd}{th key:Int}{x:SS}:∀ n,(s.lds E th key x n).W=s.W∧(s.lds E th key x n).k=s.k+n∧(s.lds E th key x n).K=s.K
 |0=>⟨rfl,rfl,rfl⟩
 |n+1=>by
  obtain⟨a,b,c⟩:=@acn E s th key x n;exact⟨a,by show (s.lds E th key x n).k+1=_;omega,c⟩
def I7(E:Ev)(W:List Int)(key:Int)(x:SS)(n:Nat):List Int:=(List.range n).map fun i=>(I5 E W key i x).pc
theorem X4{E:Ev}{W:List Int}{key:Int}{x:SS}{n:Nat}:(I7 E W key x n).length=n:=by simp[I7]
theorem acE{E:Ev}{W:List Int}{key:Int}{x:SS}{n:Nat}:I7 E W key x (n+1)=I7 E W key x n++[(I5 E W key n x).pc]:=by simp[I7,List.range_succ]
def grV(g k:Nat):Value:=if k=0 then .slice none 0 0 else .slice (some ⟨g,0,none⟩) k (aA+1)
theorem aco{g k:Nat}(h:0<k):grV g k = .slice (some ⟨g,0,none⟩) k (aA+1):=if_neg qJ
abbrev Ny:Rl:=(231,0)
abbrev B4:Rl:=(250,0)
abbrev xRn:List Rl:=[(231,0),(250,0),(0,0),(1,0),(2,0)]
abbrev yRn:List Rl:=[(231,0),(250,0),(2,0)]
theorem aqO{h:PT aj}{n:Nat}{d:Rl→Nat}{C:Rl→Option aj}{t:Nat}(ht:t≠9999)(S:St h n d C)(A:Option aj)(L:List Value):Nz n d C [(t,0)] [(t,0)] (upd d (t,0) (n+1)) (upd C (t,0) (row L)) ((h.set n A).set (n+1) (row L)) (n+1+1):=
 ⟨by omega,(S.junk (Nat.le_refl _) (Nat.lt_succ_self _)).new (t,0) _ (Nat.le_refl _) (Nat.lt_succ_self _),fun h1 n1 q F=>F.new (a:=t) (b:=0) ht qJ _,fun r hr=>bB (by simpa using hr),fun r hr=>bB (by simpa using hr)⟩
theorem aqP{h:PT aj}{n:Nat}{d:Rl→Nat}{C:Rl→Option aj}{t:Nat}(ht:t≠9999)(S:St h n d C)(A:Option aj){L0:List Value}(e:C (t,0)=row L0)(L:List Value):Nz n d C [(t,0)] [(t,0)] (upd d (t,0) (n+1)) (upd (upd C (t,0) none) (t,0) (row L)) (((h.set n A).set (d (t,0)) none).set (n+1) (row L)) (n+1+1):=
 ⟨by omega,((S.junk (Nat.le_refl _) (Nat.lt_succ_self _)).kill (t,0) e rfl).new (t,0) _ (Nat.le_refl _) (Nat.lt_succ_self _),fun h1 n1 q F=>(F.set (a:=t) (b:=0) ht e none).new (a:=t) (b:=0) ht qJ _,fun r hr=>by
  have:r≠(t,0):=by simpa using hr
  rw[bB this,bB this],fun r hr=>bB (by simpa using hr)⟩
section
variable {E:Ev} {a b:Sd} {d:Rl→Nat} {C:Rl→Option aj} {h:PT aj} {n:Nat}
theorem aBe(T:Tw E a b d C h n)(hk:a.k≤70000){th v key:Int}{N:Nat}(hth:0≤th∧th<64)(hv:0≤v∧v<E.V)(hkey:0≤key∧key<18446744073709551616)(hN4:N≤400)(hN1:1≤N)(h0:(I5 E a.W key N (SS.new v)).pc=0)(hpc:∀ i,i<N→(I5 E a.W key i (SS.new v)).pc≠0)(hok:∀ i,i≤N→rN E (I5 E a.W key i (SS.new v))):
  cE prog OB 39 [pt (d (70,0)),I6 th,I6 v,U6 key] h n fun y h' n'=>∃ d' C',y=iU [pt (d' Ny),.slice (some ⟨d' B4,0,none⟩) N (aA+1),.bool true]∧Nz n d C xRn yRn d' C' h' n'∧C' Ny=row (kV (d (70,0)) (d' Ny) th key (I5 E a.W key N (SS.new v)))∧C' B4=row ((I7 E a.W key (SS.new v) N).map (.int .u8))∧Tw E (a.lds E th key (SS.new v) N) b d' C' h' n':=by
 have hV2:=T.ok.num.V2;have an:=ahm T Ny qi (th:=th) (v:=v) (key:=key) ⟨by omega,by omega⟩;refine ay (N:=53) func39 rfl rfl fun z hP hO hro hN hQ=>?_
 repeat' first|simp(disch:=try exact yj) only[go_sem, *] | (apply xs<;>intro _)<;>try omega|refine fun (_ _:List Nat)=>?_ | (first|refine bD func87 rfl ?_ ?_ ?_ ?_ |fail)<;>intros
 refine jg (an) ?_;rintro y h1 n1 (⟨hno,-⟩ | ⟨-,d1,C1,rfl,N1,c1⟩)
 ·exact absurd ⟨hth,hv⟩ hno
 clear an;have T1:=T.own N1 qi qi;have Mc:=N1.dd (70,0) qi;have I0:∃ d' C',Nz n d C xRn yRn d' C' h1 n1∧d' Ny=d1 Ny∧C' Ny=row (kV (d (70,0)) (d1 Ny) th key (I5 E a.W key 0 (SS.new v)))∧(0<0→C' B4=row ((I7 E a.W key (SS.new v) 0).map (.int .u8)))∧Tw E (a.lds E th key (SS.new v) 0) b d' C' h1 n1∧grV (d' B4) 0 = .slice none 0 0:=
  ⟨d1,C1,N1.sub (by simp) (by simp),rfl,c1,fun q=>absurd q qi,T1,rfl⟩
 generalize d1 Ny=fa at*;clear T1 N1 c1 T Mc
 repeat' first|simp(disch:=try exact yj) only[go_sem, *,cJ,cG,cH,cI,Bool.not_true,Bool.not_false] | (apply xs<;>intro _)<;>try omega|refine fun (_ _:List Nat)=>?_ | (first|refine bD func87 rfl ?_ ?_ ?_ ?_ |fail)<;>intros
 refine a_ (fun t m h' n'=>∃ (i:Nat) (d':Rl→Nat) (C':Rl→Option aj),i<N∧t=N-i∧m.n=53∧m.fF=[]∧m.get 8=pt fa∧m.get 9=grV (d' B4) i∧m.get 11=I6 0∧m.get 12=I6 i∧Nz n d C xRn yRn d' C' h' n'∧d' Ny=fa∧C' Ny=row (kV (d (70,0)) fa th key (I5 E a.W key i (SS.new v)))∧(0<i→C' B4=row ((I7 E a.W key (SS.new v) i).map (.int .u8)))∧Tw E (a.lds E th key (SS.new v) i) b d' C' h' n') N ?_ ?_
 ·obtain⟨d',C',p1,p2,p3,p4,p5,p6⟩:=I0;refine⟨0,d',C',by omega,by omega,?_⟩;rw[p6];simp(disch:=try exact yj) only[go_sem, *]
  first|exact⟨rfl,p1,p2,p3,fun q=>absurd q qi,p5⟩ |exact⟨p1,p2,p3,fun q=>absurd q qi,p5⟩ |exact fun q=>q.elim |trace_state
 ·clear I0;rintro t m h' n' ih ⟨i,d2,C2,hi,rfl,m1,m2,m3,m4,m5,m6,N2,q1,q2,q3,T2⟩;have e7:(i:Int)<400:=by omega
  have PG:(i:Int)+1=((i+1:Nat):Int):=by omega
  obtain⟨w1,w2,w3⟩:=@acn E a th key (SS.new v) i;have agP:=N2.dd (70,0) qi;have sa:=aay T2 qJ (r:=Ny) qi (hok i qJ) hth hkey (by rw[agP,q1];exact q2);rw[q1,agP,w1,←X8,if_neg (hpc i hi)] at sa;have hpi:=hpc i hi;have hp1:=hpc (i+1);have gF:=T2.st.at q2;rw[q1] at gF;have hsi:=(hok i qJ).pc;have hsn:I7 E a.W key (SS.new v) (i+1)=_:=acE;have WS:(a.lds E th key (SS.new v) i).ld th ((I5 E a.W key i (SS.new v)).ad E)=a.lds E th key (SS.new v) (i+1):=rfl;rw[WS] at sa;simp only[kV] at gF;obtain⟨-,lb,la,-⟩:=hok i qJ;generalize hss:I5 E a.W key i (SS.new v)=ss at*;obtain⟨b0,b1,b2,b3,b4,b5,hbf⟩:∃ b0 b1 b2 b3 b4 b5,ss.bf=[b0,b1,b2,b3,b4,b5]:=six lb;obtain⟨a0,a1,a2,a3,a4,a5,haf⟩:∃ b0 b1 b2 b3 b4 b5,ss.af=[b0,b1,b2,b3,b4,b5]:=six la;rw[hbf,haf] at gF;simp only[List.map_cons,List.map_nil,List.cons_append,List.nil_append] at gF
  repeat' first|simp(disch:=try exact yj) only[go_sem, *,cJ,cG,cH,cI,Bool.not_true,Bool.not_false] | (apply xs<;>intro _)<;>try omega|refine fun (_ _:List Nat)=>?_ | (first|refine bD func87 rfl ?_ ?_ ?_ ?_ |fail)<;>intros
  clear gF;refine jg (sa) ?_;rintro v11 h11 n11 ⟨rfl,d11,C11,Vx,L9,T11⟩;clear sa q2;have N3:=N2.trans (Vx.sub (X':=xRn) (Y':=yRn) (by simp) (by simp));have e1:d11 Ny=fa:=(Vx.dd Ny qi).trans q1;have e2:d11 B4=d2 B4:=Vx.dd B4 qi;have e3:C11 B4=C2 B4:=Vx.cc B4 qi;have hlen:=@X4 E a.W key (SS.new v) i;have hdd:decide (ss.pc≠0∧(I5 E a.W key (i+1) (SS.new v)).pc=0)=decide (i+1=N):=by
   by_cases c:i+1=N
   ·subst c;simp[hpi,h0]
   ·have:=hp1 qJ;simp[c,this]
  rw[hdd];clear hdd;have hLn:∀ x:List Value,x=(I7 E a.W key (SS.new v) i).map (.int .u8)→x++[U8 ss.pc]=(I7 E a.W key (SS.new v) (i+1)).map (.int .u8):=fun x hx=>by rw[hsn,hx];simp[hss]
  have aJq:ss.pc=21∨ss.pc=22:=by omega
  clear hsn;generalize hpp:ss.pc=pp at*
  rcases Nat.eq_zero_or_pos i with JL |JL
  ·subst JL;have p5:m.get 9 = .slice none 0 0:=m4;have N4:=aqO (t:=250) qi T11.st (row [U8 pp]) [U8 pp];have T4:=T11.own N4 qi qi;have N5:=N3.trans (N4.sub (X':=xRn) (Y':=yRn) (by simp) (by simp));have f1:C11 Ny=(upd C11 B4 (row [U8 pp])) Ny:=(au qi).symm;have hL:=hLn [] (by simp[I7]);rw[List.nil_append] at hL;have f2:upd C11 B4 (row [U8 pp]) B4=row ((I7 E a.W key (SS.new v) (0+1)).map (.int .u8)):=by rw[aq,hL]
   have f3:upd d11 B4 (n11+1) B4=n11+1:=aq;have f4:upd d11 B4 (n11+1) Ny=fa:=(au qi).trans e1;rw[f1] at L9;generalize upd C11 B4 (row [U8 pp])=C4 at*;generalize upd d11 B4 (n11+1)=d4 at*;clear m4 hL hLn f1 N4 N3 N2 Vx T11 T2 hp1 hpc hok;by_cases hl:0+1=N
   ·subst hl;rw[decide_eq_true rfl];clear ih
    repeat' first|simp(disch:=try exact yj) only[go_sem, *,cJ,cG,cH,cI,Bool.not_true,Bool.not_false] | (apply xs<;>intro _)<;>try omega|refine fun (_ _:List Nat)=>?_ | (first|refine bD func87 rfl ?_ ?_ ?_ ?_ |fail)<;>intros
    refine⟨d4,C4,?_,N5,?_,f2,T4⟩
    ·rw[f3,f4]
    ·rw[f4,L9];simp only[kV,h0,List.cons_append,List.nil_append]
   ·rw[decide_eq_false hl]
    repeat' first|simp(disch:=try exact yj) only[go_sem, *,cJ,cG,cH,cI,Bool.not_true,Bool.not_false] | (apply xs<;>intro _)<;>try omega|refine fun (_ _:List Nat)=>?_ | (first|refine bD func87 rfl ?_ ?_ ?_ ?_ |fail)<;>intros
    refine ih (N-(0+1)) _ _ _ qJ ⟨0+1,d4,C4,by omega,rfl,?_⟩;have g9:grV (d4 B4) (0+1) = .slice (some ⟨n11+1,0,none⟩) 1 (aA+1):=by rw[f3];rfl
    rw[g9];clear ih;simp(disch:=try exact yj) only[go_sem, *]
    first|exact⟨N5,f4,L9,fun _=>f2,T4⟩ |exact⟨rfl,N5,f4,L9,fun _=>f2,T4⟩ |exact⟨rfl,fun _=>trivial⟩ |exact fun _=>trivial |trace_state
  ·rw[aco JL] at m4;have q4:=q3 JL;rw[←e3] at q4;have hrow:=T11.st.at q4;rw[e2] at hrow;have N4:=aqP (t:=250) qi T11.st (row [U8 pp]) q4 ((I7 E a.W key (SS.new v) i).map (.int .u8)++[U8 pp]);have hlt:=T11.st.lt q4;rw[e2] at hlt N4;have T4:=T11.own N4 qi qi;have N5:=N3.trans (N4.sub (X':=xRn) (Y':=yRn) (by simp) (by simp));have hml:((I7 E a.W key (SS.new v) i).map (Value.int .u8)).length=i:=by rw[List.length_map,hlen]
   have hLn:=hLn _ rfl;have zJ:((I7 E a.W key (SS.new v) i).map (Value.int .u8)).take i=(I7 E a.W key (SS.new v) i).map (.int .u8):=List.take_of_length_le qJ;generalize (I7 E a.W key (SS.new v) i).map (Value.int .u8)=La at*;have f1:C11 Ny=(upd (upd C11 B4 none) B4 (row (La++[U8 pp]))) Ny:=by rw[au qi,au qi]
   have f2:upd (upd C11 B4 none) B4 (row (La++[U8 pp])) B4=row ((I7 E a.W key (SS.new v) (i+1)).map (.int .u8)):=by rw[aq,hLn]
   have f3:upd d11 B4 (n11+1) B4=n11+1:=aq;have f4:upd d11 B4 (n11+1) Ny=fa:=(au qi).trans e1;rw[f1] at L9;generalize upd (upd C11 B4 none) B4 (row (La++[U8 pp]))=C4 at*;generalize upd d11 B4 (n11+1)=d4 at*;have Lb:Nat.ble (i+1) 1048576=true:=Nat.ble_eq_true_of_le qJ;clear hLn f1 N4 N3 N2 Vx T11 T2 hp1 hpc hok q3 q4 e3 hlen;by_cases hl:i+1=N
   ·subst hl;rw[decide_eq_true rfl];clear ih
    repeat' first|simp(disch:=try exact yj) only[go_sem, *,cJ,cG,cH,cI,Bool.not_true,Bool.not_false] | (apply xs<;>intro _)<;>try omega|refine fun (_ _:List Nat)=>?_ | (first|refine bD func87 rfl ?_ ?_ ?_ ?_ |fail)<;>intros
    refine⟨d4,C4,?_,N5,?_,f2,T4⟩
    ·rw[f3,f4]
    ·rw[f4,L9];simp only[kV,h0,List.cons_append,List.nil_append]
   ·rw[decide_eq_false hl]
    repeat' first|simp(disch:=try exact yj) only[go_sem, *,cJ,cG,cH,cI,Bool.not_true,Bool.not_false] | (apply xs<;>intro _)<;>try omega|refine fun (_ _:List Nat)=>?_ | (first|refine bD func87 rfl ?_ ?_ ?_ ?_ |fail)<;>intros
    refine ih (N-(i+1)) _ _ _ qJ ⟨i+1,d4,C4,by omega,rfl,?_⟩;have g9:grV (d4 B4) (i+1) = .slice (some ⟨n11+1,0,none⟩) (i+1:Nat) (aA+1):=by rw[f3];exact aco (Nat.succ_pos _)
    rw[g9];clear ih;simp(disch:=try exact yj) only[go_sem, *]
    first|exact⟨N5,f4,L9,fun _=>f2,T4⟩ |exact⟨rfl,N5,f4,L9,fun _=>f2,T4⟩ |exact⟨rfl,fun _=>trivial⟩ |exact fun _=>trivial |trace_state
end
end Go.Proofs.YtofmbmclopgldaaGreat
namespace Go.Proofs.YtofmbmclopgldaaGreat
open Go.Am
def ldL(E:Ev)(W:List Int)(key:Int)(x:SS)(th:Int):Nat→List Value
 |0=>[]
 |n+1=>ldL E W key x th n++gU th ((I5 E W key n x).ad E) 1 (vm W ((I5 E W key n x).ad E)) (vm W ((I5 E W key n x).ad E)) false
section
variable {E:Ev} {W:List Int} {key th v:Int} {x:SS}
theorem Kz:∀ n,(ldL E W key x th n).length=n*6
 |0=>rfl
 |n+1=>by simp only[ldL,List.length_append,Kz n,gU,List.length_cons,List.length_nil];omega
theorem afe{s:Sd}:∀ n,(s.lds E th key x n).L=s.L++ldL E s.W key x th n
 |0=>by simp[Sd.lds,ldL]
 |n+1=>by
  have e:=@afe s n;obtain⟨w,-,-⟩:=@acn E s th key x n
  show (s.lds E th key x n).L++gU th _ 1 _ _ false=_
  rw[e,w,ldL,List.append_assoc]
theorem acq{s:Sd}:∀ n,iT s.L (s.lds E th key x n).L
 |0=>iT.refl
 |n+1=>(acq n).acc
theorem acr:∀ {n i j:Nat},i<n→j<6→(ldL E W key x th n)[i*6+j]? = (gU th ((I5 E W key i x).ad E) 1 (vm W ((I5 E W key i x).ad E)) (vm W ((I5 E W key i x).ad E)) false)[j]?
 |n+1,i,j,hi,hj=>by
  rw[ldL];by_cases c:i=n
  ·subst c;rw[List.getElem?_append_right (by rw[Kz];omega),Kz,show i*6+j-i*6=j by omega]
  ·rw[List.getElem?_append_left (by rw[Kz];omega)];exact acr qJ hj
def Rds(E:Ev)(v:Int)(x:SS):Prop:=(x.pc=21∧x.nd = -1-v∧x.lv<6∧x.ad E=na E.l (-1-v) x.lv)∨(x.pc=21∧ux E.l x.nd∧(x.lv:Int)<hgt E.l x.nd∧x.ad E=ta E.l x.nd+(5+x.lv))∨(x.pc=22∧ux E.l x.c∧x.ad E=ta E.l x.c+0)
theorem SrI.reads{A B A1 A2:List Int}(H:SrI E W v key A B A1 A2 x)(hp:x.pc≠0)(hA:∀ u∈A,ux E.l u):Rds E v x:=by
 have hn:=H.nd hp;have hh:=H.hg hp
 rcases H.ok.pc with c |c |c
 ·exact absurd c hp
 ·have had:x.ad E=na E.l x.nd x.lv:=if_pos c
  rcases R2 (P:=A1) (r := -1-v) with q |q
  ·left;have e:x.nd = -1-v:=hn.trans q;exact⟨c,e,H.ok.lv,by rw[had,e]⟩
  ·right;left;have hne:A1≠[]:=fun e=>by rw[e] at q;simp at q
   have hT:ux E.l (A1.getLastD (-1-v)):=hA _ (by rw[H.eA];exact List.mem_append_left _ q);have hg:=hh hne;rw[←hn] at hT hg;refine⟨c,hT,hg,?_⟩;rw[had];unfold na;rw[if_neg (by have:=hT.1;omega)];omega
 ·right;right;exact⟨c,(H.ok.c c).1,if_neg qJ⟩
end
end Go.Proofs.YtofmbmclopgldaaGreat
namespace Go.Proofs.YtofmbmclopgldaaGreat
open Go.Am Go.Proofs.Tryz
theorem agF{z:Zx}{c:Code}{K:List KF}{m:Tm}{h:PT aj}{n:Nat}(Q:Tm→Prop)(hp:Q m)(H:∀ m',Q m'→iZ z c K m' h n):iZ z c K m h n:=H m hp
theorem ae0{z:Zx}{K:List KF}{m:Tm}{h:PT aj}{n:Nat}{g:Operand}{ps:Array Tmp}{ac bd:Code}{f:FuncId}{args:List Value}{fn:Fn}{first captured:Array Value}{R:PT aj→Nat→Prop}(hn:m.n=z.N)(hro:z.ro=none)(hg:bz g=true)(he:m.eval g = .func fn first captured)
  (hc:j7 z.P fn captured.toList (first.toList++[.func (.yield (n+1)) ⟨[]⟩ ⟨[]⟩]) = .pure (.enter f args)) (hO:z.O f args=none)
  (hB:cE z.P z.O f args ((h.set n (some .deferred)).set (n+1) (some (.loop .ready none m ps.toList ac bd))) (n+2) fun _ h' n'=>R h' n'∧h'.get (n+1)=some (.loop .ready none m ps.toList ac bd))
  (hk:∀ h' n',R h' n'→Go.Am.Rs z K .normal (KL m (n::m.fF)) (h'.set (n+1) (some (.loop .exhausted none m ps.toList ac bd))) n'):iZ z (.rangeFunc g ps ac bd) K m h n:=
 acu hn hro hg he hc hO hB fun v h' n' r=>⟨r.2,hk h' n' r.1⟩
theorem acJ{P:Program}{O:Over}{h:PT aj}{n:Nat}{l N:Nat}{m0:Tm}{ac bd:Code}{R:Bool→PT aj→Nat→Prop}{tm:Tm}{ps:List Tmp}
  (H:∀ z0:Zx,z0.P=P→z0.O=O→z0.ro=some l→z0.N=N→z0.Q=(fun e m1 h1 n1=>e = .normal∧h1.get l=some (.loop .ready none tm ps ac bd)∧
   ∀ z1:Zx,z1.P=P→z1.O=O→z1.ro=some l→z1.N=N→z1.Q=(fun e2 m2 h2 n2=>h2.get l=some (.loop .busy none tm ps ac bd)∧R (exitCode e2).isNone (h2.set l (some (.loop (cond (exitCode e2).isNone .ready .done) (exitCode e2) tm ps ac bd))) n2)→
    iZ z1 bd [] m1 (h1.set l (some (.loop .busy none tm ps ac bd))) n1)→iZ z0 ac [] m0 h n):GZ P O l m0 ac bd h n R:=acy H
@[go_sem] theorem ae1:exitCode .normal=none:=rfl
structure abU(h:PT aj)(tb mb wb lb:Nat)(lg:Value)(W:List Int)(l:dg):Prop where
 ft:h.get tb=row [pt mb,pt lb]
 fm:h.get mb=row [.slice (some ⟨wb,0,none⟩) W.length W.length,lg]
 fw:h.get wb=row (W.map (.int .u64))
 fl:(zK (pt lb)).look h=some l
 fu:∀ x∈W,0≤x∧x<18446744073709551616
 fH:l.H.length≤2000
 fwl:W.length≤65536
theorem abU.keep{h h':PT aj}{tb mb wb lb:Nat}{lg:Value}{W:List Int}{l:dg}(I:abU h tb mb wb lb lg W l)(k:Kept h h'):abU h' tb mb wb lb lg W l:=
 ⟨k _ _ I.ft,k _ _ I.fm,k _ _ I.fw,gT k I.fl,I.fu,I.fH,I.fwl⟩
section
variable {h:PT aj} {n tb mb wb lb:Nat} {lg:Value} {W:List Int} {l:dg}
theorem iH(I:abU h tb mb wb lb lg W l)(r lv:Int):
  cE prog OB 130 [pt tb,I6 r,I6 lv] h n fun v h' n'=>v=iU [I6 (Ji l W r lv),I6 (sS l r lv)]∧h'=h∧n'=n:=by
 obtain⟨ht,hm,hw,hl,hu,hH,rQ⟩:=I;have hrl:=fun h' hk z f d ops r K m n=>@cw _ _ _ _ h' hl z f d ops r K m n hk;obtain⟨u0,u1⟩:=tq hu (rE l r lv);refine ay (N:=40) func130 rfl rfl fun z hP hO hro hN hQ=>?_;unfold Ji at hQ;by_cases he:sS l r lv=0
 ·rw[if_pos he,he] at hQ;by_cases hc:0≤rE l r lv∧rE l r lv<W.length
  ·obtain⟨i,hi⟩:∃ i:Nat,rE l r lv=i:=⟨(rE l r lv).toNat,by omega⟩;have hil:i<W.length:=by omega
   have hg:=dP hil;rw[hi,iJ hil] at u0 u1 hQ;generalize W[i]=x at*;have c3:(0:Int)≤(i:Int):=by omega
   have c4:(i:Int)<(W.length:Int):=by omega
   clear hc;have hi2:(rE l r lv).toNat=i:=by omega
   by_cases hx:x≤(l.H.length:Int)
   ·rw[if_pos hx] at hQ
    repeat' first|simp(disch:=try exact yj) only[go_sem, *,dR,AH,j5,hi] | (apply xs<;>intro _)<;>try omega|refine fun (_ _:List Nat)=>?_ | (first|refine bD func104 rfl ?_ ?_ ?_ ?_ |refine bD func114 rfl ?_ ?_ ?_ ?_ |refine bD func69 rfl ?_ ?_ ?_ ?_ |refine bD func178 rfl ?_ ?_ ?_ ?_ |fail)<;>intros
   ·rw[if_neg hx] at hQ
    repeat' first|simp(disch:=try exact yj) only[go_sem, *,dR,AH,j5,hi] | (apply xs<;>intro _)<;>try omega|refine fun (_ _:List Nat)=>?_ | (first|refine bD func104 rfl ?_ ?_ ?_ ?_ |refine bD func114 rfl ?_ ?_ ?_ ?_ |refine bD func69 rfl ?_ ?_ ?_ ?_ |refine bD func178 rfl ?_ ?_ ?_ ?_ |fail)<;>intros
  ·rw[aeV qJ,if_pos qJ] at hQ;clear u0 u1
   rcases(show rE l r lv<0∨(0≤rE l r lv∧(W.length:Int)≤rE l r lv) by omega) with c | ⟨c,c2⟩
   ·clear hc
    repeat' first|simp(disch:=try exact yj) only[go_sem, *,dR,AH,j5] | (apply xs<;>intro _)<;>try omega|refine fun (_ _:List Nat)=>?_ | (first|refine bD func104 rfl ?_ ?_ ?_ ?_ |refine bD func114 rfl ?_ ?_ ?_ ?_ |refine bD func69 rfl ?_ ?_ ?_ ?_ |refine bD func178 rfl ?_ ?_ ?_ ?_ |fail)<;>intros
   ·clear hc
    repeat' first|simp(disch:=try exact yj) only[go_sem, *,dR,AH,j5] | (apply xs<;>intro _)<;>try omega|refine fun (_ _:List Nat)=>?_ | (first|refine bD func104 rfl ?_ ?_ ?_ ?_ |refine bD func114 rfl ?_ ?_ ?_ ?_ |refine bD func69 rfl ?_ ?_ ?_ ?_ |refine bD func178 rfl ?_ ?_ ?_ ?_ |fail)<;>intros
 ·rw[if_neg he] at hQ;clear u0 u1
  repeat' first|simp(disch:=try exact yj) only[go_sem, *,dR,AH,j5] | (apply xs<;>intro _)<;>try omega|refine fun (_ _:List Nat)=>?_ | (first|refine bD func104 rfl ?_ ?_ ?_ ?_ |refine bD func114 rfl ?_ ?_ ?_ ?_ |refine bD func69 rfl ?_ ?_ ?_ ?_ |refine bD func178 rfl ?_ ?_ ?_ ?_ |fail)<;>intros
theorem agK{p1 p2 p3 lp N:Nat}{v lv:Int}(tm:Tm)(p:Nat)(hp:p<tm.n)(ac bd:Code)(I:List Int→PT aj→Nat→Prop){h0:PT aj}(hW:bQ h N)(RT:Kept h0 h)
  (h1:h0.get p1=row [pt tb]) (h2:h0.get p2=row [I6 v]) (h3:h0.get p3=row [I6 lv]) (T:abU h0 tb mb wb lb lg W l) (hv:0≤v∧v≤1000)
  (hlp:h.get lp=some (.loop .ready none tm [p] ac bd)) (hI0:∀ x:aj,I [] (h.set N (some x)) (N+1)) (hIk:∀ ws h' n',I ws h' n'→Kept h0 h') (j8:∀ ws h' n' (x:aj),I ws h' n'→I ws (h'.set N (some x)) n')
  (hstep:∀ ws (r:Int) h' n',bQ h' n'→N+1≤n'→I ws h' n'→ws.length≤l.H.length→(0<r∧r≤l.H.length)→h'.get lp=some (.loop .ready none tm [p] ac bd)→GZ prog OB lp (KL (up tm p (.int .i64 r)) []) ac bd h' n' (fun b h2 n2=>b=true∧I (ws++[r]) h2 n2∧h2.get lp=some (.loop .ready none tm [p] ac bd)∧h2.get N=h'.get N∧bQ h2 n2∧n'≤n2)):
  cE prog OB 129 [.func (.yield lp) ⟨[]⟩ ⟨[]⟩,pt p1,pt p2,pt p3] h N fun _ h' n'=>I (chain l W lv (l.H.length+1) (List.replicate (l.H.length+1) false) (Ji l W (-1-v) lv)) h' n'∧h'.get lp=some (.loop .ready none tm [p] ac bd)∧bQ h' n'∧N+1≤n':=by
 obtain⟨hv0,hv1⟩:=hv;have hlN:=hW.lt hlp;have hH:=T.fH;have g1:=RT _ _ h1;have g2:=RT _ _ h2;have g3:=RT _ _ h3;have T0:=T.keep RT;have gt:=T0.ft;have a1:=hW.lt g1;have a2:=hW.lt g2;have a3:=hW.lt g3;have a4:=hW.lt gt;obtain⟨C,hC⟩:∃ C,chain l W lv (l.H.length+1) (List.replicate (l.H.length+1) false) (Ji l W (-1-v) lv)=C:=⟨_,rfl⟩;have hbz:Value.bool false::rep [Value.bool false] l.H.length=(List.replicate (l.H.length+1) false).map Value.bool:=by rw[iE,List.replicate_succ,List.map_cons,List.map_replicate]
 have Lb:(l.H.length+1).ble 1048576=true:=Nat.ble_eq_true_of_le qJ;have har:=fun r=>@Lr l W r lv T.fu;have hl:=T.fl;have hrl:=fun h' hk z f d ops r K m n=>@cw _ _ _ _ h' hl z f d ops r K m n hk;rw[hC];refine ay (N:=62) func129 rfl rfl fun z hP hO hro hN hQ=>?_;have arX:((l.H.length:Int)+1).toNat=l.H.length+1:=by omega
 repeat' first|simp(disch:=try exact yj) only[go_sem, *,dR] | (apply xs<;>intro _)<;>try omega
 have i0:=hI0 (.cells (PT.ofList .leaf 0 ((List.replicate (l.H.length+1) false).map Value.bool)) false);generalize Hy:h.set N (some (.cells (PT.ofList .leaf 0 ((List.replicate (l.H.length+1) false).map Value.bool)) false))=h1' at*;have r1:=xK Hy;have kk1:Kept h h1':=by rw[←Hy];exact hW.kept (Nat.le_refl _)
 have w1:bQ h1' (N+1):=by rw[←Hy];exact hW.set qJ qJ
 have aBh:=kk1 _ _ hlp;have k01:=RT.trans kk1;clear Hy kk1 hbz arX Lb;have af:=iH (n:=N+1) (T.keep k01) (-1-v) lv;refine jg (af) ?_;rintro w h2' n2 ⟨rfl,hh,hn⟩;subst hh hn;clear g1 g2 g3 gt hlp hI0 hW RT af T0;obtain⟨ra0,ra1⟩:=har (-1-v);have De:(List.replicate (l.H.length+1) false).length=l.H.length+1:=List.length_replicate;have as8:(List.replicate (l.H.length+1) false).count false=l.H.length+1:=by simp
 generalize List.replicate (l.H.length+1) false=S0' at*;generalize Ji l W (-1-v) lv=r0 at*
 repeat' first|simp(disch:=try exact yj) only[go_sem, *] | (apply xs<;>intro _)<;>try omega
 refine a_ (fun t m h' n'=>∃ (r:Int) (S:List Bool) (ws:List Int),0≤r∧r≤l.H.length∧S.length=l.H.length+1∧S.count false=t∧ws.length+t=l.H.length+1∧ws++chain l W lv t S r=C∧m.n=62∧m.fF=[]∧m.get 0 = .func (.yield lp) ⟨[]⟩ ⟨[]⟩∧m.get 1=pt p1∧m.get 2=pt p2∧m.get 3=pt p3∧
  m.get 5 = .slice (some ⟨N,0,none⟩) (l.H.length+1) (l.H.length+1)∧m.get 6 = .int .i64 r∧h'.get N=some (.cells (PT.ofList .leaf 0 (S.map Value.bool)) false)∧h'.get lp=some (.loop .ready none tm [p] ac bd)∧I ws h' n'∧bQ h' n'∧N+1≤n') (l.H.length+1) ?_ ?_
 ·refine⟨r0,S0',[],ra0,ra1,De,as8,Nat.zero_add _,hC,?_⟩;clear hrl har;simp(disch:=try exact yj) only[go_sem, *]
  try exact Nat.le_refl _
 ·clear hC i0 r1 w1 aBh k01 De as8 ra0 ra1;rintro t m h' n' ih ⟨r,S,ws,jk,hr1,Ej,hSc,hwt,hch,m0,m1,m2,m3,m4,m5,m6,m7,q1,q2,q3,q4,q5⟩;obtain⟨rn,rfl⟩:∃ rn:Nat,r=rn:=⟨r.toNat,by omega⟩;have hrn:rn<S.length:=by omega
  have hgD:S.getD (rn:Int).toNat true=S[rn]:=by rw[Int.toNat_natCast];simp[List.getD,hrn]
  have hSm:(S.map Value.bool)[rn]? = some (.bool S[rn]):=by rw[List.getElem?_map,List.getElem?_eq_getElem hrn];rfl
  have aGq:(S.map Value.bool).length=l.H.length+1:=by rw[List.length_map];exact Ej
  have k0':=hIk _ _ _ q3;have g1:=k0' _ _ h1;have g2:=k0' _ _ h2;have g3:=k0' _ _ h3;have gt:=(T.keep k0').ft;by_cases c1:0<(rn:Int)
  ·have c1':rn<l.H.length+1:=by omega
   cases hb:S[rn] with
   |true=>
    have oK:chain l W lv t S rn=[]:=by
     cases t with
     |zero=>rfl
     |succ t=>rw[chain,if_neg];rw[hgD,hb];simp
    rw[oK,List.append_nil] at hch;subst hch;rw[hb] at hSm;clear ih hstep j8 hgD T
    repeat' first|simp(disch:=try exact yj) only[go_sem, *] | (apply xs<;>intro _)<;>try omega
    try exact⟨_,rfl⟩
   |false=>
    rw[hb] at hSm hgD;have hco:∃ t',t=t'+1∧(S.set rn true).count false=t':=by
     have:=count_set (S:=S) (i:=rn) (by rw[List.getElem?_eq_getElem hrn,hb]);exact⟨(S.set rn true).count false,by omega,rfl⟩
    obtain⟨t',rfl,hco⟩:=hco;by_cases c2:lv<qx l.H rn
    ·rw[chain,if_pos ⟨c1,hgD,c2⟩,Int.toNat_natCast] at hch;have c2': ¬ qx l.H rn≤lv:=by omega
     have hst:=hstep ws rn h' n' q4 q5 q3 qJ ⟨c1,hr1⟩ q2;clear hstep hgD c2
     repeat' first|simp(disch:=try exact yj) only[go_sem, *,cu,cT,aaV] | (apply xs<;>intro _)<;>try omega
     refine acw ?_ (by rw[hP,hO];exact hst) ?_
     ·simp(disch:=try exact yj) only[go_sem, *]
     rintro b h3' n3 ⟨rfl,j1,j2,j3,j4,j5⟩;rw[q1] at j3;have k3:=hIk _ _ _ j1;have aJu:(S.map Value.bool).set rn (.bool true)=(S.set rn true).map Value.bool:=by rw[List.map_set]
     have j6:=j8 _ _ _ (.cells (PT.ofList .leaf 0 ((S.set rn true).map Value.bool)) false) j1;have aJv:N+1≤n3:=by omega
     clear q1 q2 q3 q4 q5 hst k0' g1 g2 g3 gt;have g1:=k3 _ _ h1;have g2:=k3 _ _ h2;have g3:=k3 _ _ h3
     repeat' first|simp(disch:=try exact yj) only[go_sem, *] | (apply xs<;>intro _)<;>try omega
     generalize hh4:h3'.set N _=h4;have e1:=xK hh4;have e2:h4.get lp=some (.loop .ready none tm [p] ac bd):=by rw[←hh4,az qJ];exact j2
     rw[hh4] at j6;have w4:bQ h4 n3:=by rw[←hh4];exact bQ.set' qJ j4
     have k4:=hIk _ _ _ j6;have af:=iH (n:=n3) (T.keep k4) rn lv;refine jg (af) ?_;rintro w h5 n5' ⟨rfl,hh5,hn5⟩;subst hh5 hn5;obtain⟨ra0,ra1⟩:=har rn;clear hh4 j1 j2 j3 j4 k3 j8 af
     repeat' first|simp(disch:=try exact yj) only[go_sem, *] | (apply xs<;>intro _)<;>try omega
     refine ih t' _ _ _ qJ ⟨Ji l W rn lv,S.set rn true,ws++[(rn:Int)],ra0,ra1,by rw[List.length_set];exact Ej,hco,by rw[List.length_append];simp only[List.length_cons,List.length_nil];omega,by rw[List.append_assoc];exact hch,?_⟩;clear ih hrl har;simp(disch:=try exact yj) only[go_sem, *]
     try omega
    ·rw[chain,if_neg (fun q=>c2 q.2.2),List.append_nil] at hch;subst hch;have c2':qx l.H rn≤lv:=by omega
     clear hstep ih j8 hgD c2 T
     repeat' first|simp(disch:=try exact yj) only[go_sem, *,cu,cT] | (apply xs<;>intro _)<;>try omega
     try exact⟨_,rfl⟩
  ·have oK:chain l W lv t S rn=[]:=by
    cases t with
    |zero=>rfl
    |succ t=>rw[chain,if_neg];exact fun q=>c1 q.1
   rw[oK,List.append_nil] at hch;subst hch;clear ih hstep j8 hgD T
   repeat' first|simp(disch:=try exact yj) only[go_sem, *] | (apply xs<;>intro _)<;>try omega
   try exact⟨_,rfl⟩
structure ApI(h0:PT aj)(N:Nat)(ws:List Int)(h:PT aj)(n:Nat):Prop where
 out:∃ sl,h.get N=some (.cells (PT.ofList .leaf 0 [sl]) false)∧bg .i64 h (N+4) sl ws
 dfr:h.get (N+1)=some .deferred
 kept:Kept h0 h
theorem aci{p1 p2 p3 N:Nat}{v lv:Int}(hW:bQ h N)(h1:h.get p1=row [pt tb])(h2:h.get p2=row [I6 v])(h3:h.get p3=row [I6 lv])(T:abU h tb mb wb lb lg W l)(hv:0≤v∧v≤1000):
  cE prog OB 174 [.slice none 0 0,.func (.func 129) ⟨[]⟩ ⟨[pt p1,pt p2,pt p3]⟩] h N fun r h' n'=>bg .i64 h' N r (wE l W v lv)∧Kept h h'∧bQ h' n'∧N≤n':=by
 refine acU (N:=13) func174 rfl rfl fun z hP hO hro hN hQ=>?_;have hlH:=T.fH
 repeat' first|simp(disch:=try exact yj) only[go_sem, *] | (apply xs<;>intro _)<;>try omega
 refine agF (fun m'=>m'.n=13∧m'.fF=[]∧m'.get 2=pt N∧m'.get 6 = .func (.func 129) ⟨[]⟩ ⟨[pt p1,pt p2,pt p3]⟩) ?_ ?_
 ·simp(disch:=try exact yj) only[go_sem, *]
 rintro m ⟨m1,m2,m3,m4⟩;generalize hhr:PT.set h N _=hr;have e1:hr.get N=some (.cells (PT.ofList .leaf 0 [.slice none 0 0]) false):=xK hhr;have hWr:bQ hr (N+1):=by rw[←hhr];exact hW.set qJ qJ
 have hkr:Kept h hr:=by rw[←hhr];exact hW.kept (Nat.le_refl _)
 clear hhr;refine ae0 (f:=129) (args:=[.func (.yield (N+2)) ⟨[]⟩ ⟨[]⟩,pt p1,pt p2,pt p3]) (R:=fun h' n'=>ApI h N (wE l W v lv) h' n'∧bQ h' n'∧N+4≤n') (by rw[m1,hN]) hro rfl m4 (by rw[hP];rfl) (by rw[hO];rfl) ?_ ?_
 ·rw[hP,hO];refine(agK m 7 qJ _ _ (fun ws h' n'=>ApI h N ws h' n') (bQ.set' qJ (hWr.set qJ qJ)) (Kept.set' hW qJ (Kept.set' hW qJ hkr)) h1 h2 h3 T hv aI ?_ ?_ ?_ ?_).mono fun r h' n' q=>⟨⟨q.1,q.2.2.1,by have:=q.2.2.2;omega⟩,q.2.1⟩
  ·intro x;refine⟨⟨.slice none 0 0,?_,.inl ⟨rfl,rfl⟩⟩,?_,Kept.set' hW qJ (Kept.set' hW qJ (Kept.set' hW qJ hkr))⟩
   ·simp(disch:=omega) only[az];exact e1
   ·rw[az qJ,az qJ];exact aI
  ·rintro ws h' n' ⟨_,_,q⟩;exact q
  ·rintro ws h' n' x ⟨⟨sl,o1,o2⟩,o4,o5⟩;exact⟨⟨sl,by rw[az qJ];exact o1,o2.low qJ⟩,by rw[az qJ];exact o4,Kept.set' hW qJ o5⟩
  ·rintro ws r h' n' hW' hN' ⟨⟨sl,o1,o2⟩,o4,o5⟩ rP hr hlp;have hsn:ws.map (Value.int .i64)++[.int .i64 r]=(ws++[r]).map (.int .i64):=by simp
   refine acJ (N:=13) (tm:=m) (ps:=[7]) fun z0 h0P h0O aBj h0N h0Q=>?_
   repeat' first|simp(disch:=try exact yj) only[go_sem, *] | (apply xs<;>intro _)<;>try omega
   intro z1 h1P h1O aJC h1N h1Q;clear h0P h0O aBj h0N h0Q hQ hP hO hro hN e1 h1 h2 h3 T hr
   rcases o2 with ⟨rfl,rfl⟩ | ⟨g,rfl,g1,g3⟩
   ·repeat' first|simp(disch:=try exact yj) only[go_sem, *] | (apply xs<;>intro _)<;>try omega
    refine⟨⟨⟨.slice (some ⟨n'+1,0,none⟩) 1 (aA+1),by simp(disch:=omega) only[az,aI],.inr ⟨n'+1,rfl,by omega,by simp(disch:=omega) only[az,aI];rfl⟩⟩,by simp(disch:=omega) only[az];exact o4,?_⟩,?_,by omega⟩
    ·exact Kept.set' hW qJ (Kept.set' hW qJ (Kept.set' hW qJ (Kept.set' hW qJ (Kept.set' hW qJ o5))))
    ·exact bQ.set' qJ (bQ.set' qJ (bQ.set' qJ (bQ.set' qJ (hW'.mono qJ |>.set (Nat.le_refl _) qJ))))
   ·have hgn:=hW'.lt g3;have zJ:List.take ws.length (ws.map (Value.int .i64))=ws.map (.int .i64):=jH;have hml:(ws.map (Value.int .i64)).length=ws.length:=List.length_map _;have Lb:Nat.ble (ws.length+1) 1048576=true:=Nat.ble_eq_true_of_le qJ;have aJD:g≠N+2∧g≠N∧g≠N+1:=by omega
    repeat' first|simp(disch:=try exact yj) only[go_sem, *] | (apply xs<;>intro _)<;>try omega
    refine⟨⟨⟨.slice (some ⟨n'+1,0,none⟩) (ws.length+1) (aA+1),by simp(disch:=omega) only[az,aI],.inr ⟨n'+1,by rw[List.length_append];rfl,by omega,by simp(disch:=omega) only[az,aI]⟩⟩,by simp(disch:=omega) only[az];exact o4,?_⟩,?_,by omega⟩
    ·exact Kept.set' hW qJ (Kept.set' hW qJ (Kept.set' hW qJ (Kept.set' hW qJ (Kept.set' hW qJ (Kept.set' hW qJ o5)))))
    ·exact bQ.set' qJ (bQ.set' qJ (bQ.set' qJ (bQ.set' qJ (bQ.set' qJ (hW'.mono qJ |>.set (Nat.le_refl _) qJ)))))
 ·rintro h' n' ⟨⟨⟨sl,o1,o2⟩,o4,o5⟩,hW',hN'⟩;generalize wE l W v lv=C at*;have vC:∀ g,Kept h (PT.set (PT.set h' (N+2) g) (N+1) none):=fun g=>Kept.set' hW qJ (Kept.set' hW qJ o5);have Lz:∀ g,bQ (PT.set (PT.set h' (N+2) g) (N+1) none) n':=fun g=>bQ.set' qJ (bQ.set' qJ hW');have hgr:∀ g,bg .i64 (PT.set (PT.set h' (N+2) g) (N+1) none) N sl C:=fun g=>by
   have:=(o2.low (j:=N+2) (B:=g) qJ).low (j:=N+1) (B:=none) qJ
   rcases this with q | ⟨b,q1,q2,q3⟩
   ·exact .inl q
   ·exact .inr ⟨b,q1,by omega,q3⟩
  have hN3:N≤n':=by omega
  repeat' first|simp(disch:=try exact yj) only[go_sem, *] | (apply xs<;>intro _)<;>try omega
theorem aqR{N:Nat}{v lv:Int}(hW:bQ h N)(T:abU h tb mb wb lb lg W l)(hv:0≤v∧v≤1000)(he:sS l (-1-v) lv=0):
  cE prog OB 41 [pt tb,I6 v,I6 lv] h N fun r h' n'=>∃ s,r=iU [s,I6 0]∧bg .i64 h' N s (wE l W v lv)∧Kept h h'∧bQ h' n'∧N≤n':=by
 have hvv:=hv;obtain⟨hv0,hv1⟩:=hv;have hl:=T.fl;have ht:=T.ft;have hrl:=fun h' hk z f d ops r K m n=>@cw _ _ _ _ h' hl z f d ops r K m n hk;have hnv: ¬ v<0:=by omega
 refine ay (N:=34) func41 rfl rfl fun z hP hO hro hN hQ=>?_
 repeat' first|simp(disch:=try exact yj) only[go_sem, *,AH,j5] | (apply xs<;>intro _)<;>try omega|refine fun (_ _:List Nat)=>?_ | (first|refine bD func101 rfl ?_ ?_ ?_ ?_ |refine bD func58 rfl ?_ ?_ ?_ ?_ |fail)<;>intros
 generalize hh:((h.set N _).set (N+1) _).set (N+1+1) _=h1;have k1:Kept h h1:=by rw[←hh];exact Kept.set' hW qJ (Kept.set' hW qJ (hW.kept (Nat.le_refl _)))
 have e1:h1.get N=row [pt tb]:=by rw[←hh];simp(disch:=omega) only[az,aI]
 have e2:h1.get (N+1)=row [I6 v]:=by rw[←hh];simp(disch:=omega) only[az,aI]
 have e3:h1.get (N+1+1)=row [I6 lv]:=by rw[←hh];exact aI
 have w1:bQ h1 (N+1+1+1):=by rw[←hh];exact bQ.set' qJ (bQ.set' qJ (hW.set qJ qJ))
 clear hh;have aqS:=aci (N:=N+1+1+1) w1 e1 e2 e3 (T.keep k1) hvv;clear hrl hl ht e1 e2 e3;refine jg (aqS) ?_;rintro r h2 n2 ⟨q1,q2,q5,q6⟩;have q3:=k1.trans q2;have q4:bg .i64 h2 N r (wE l W v lv):=by
  rcases q1 with q | ⟨b,p1,p2,p3⟩
  ·exact .inl q
  ·exact .inr ⟨b,p1,by omega,p3⟩
 clear q1 q2 k1 aqS
 repeat' first|simp(disch:=try exact yj) only[go_sem, *] | (apply xs<;>intro _)<;>try omega|refine fun (_ _:List Nat)=>?_ | (first|refine bD func101 rfl ?_ ?_ ?_ ?_ |refine bD func58 rfl ?_ ?_ ?_ ?_ |fail)<;>intros
 first|exact⟨r,rfl,q4,by omega⟩ |exact⟨q4,by omega⟩ |omega
end
end Go.Proofs.YtofmbmclopgldaaGreat
