/-
A part.
-/
import Derived.Test.YtofmbmclopgldaaGreatT9D
import Derived.Test.YtofmbmclopgldaaGreatT9Q1
set_option linter.all false
set_option maxRecDepth 100000
set_option maxHeartbeats 8000000
namespace Go.Proofs.YtofmbmclopgldaaGreat
open Go.Am Tryz
def ej:Int→List Int→List (Int×Int×Int)
 | _,[]=>[]
 |t,x::r=>iD 9 t (5+x).toNat (5+x).toNat++ej (t+1) r
theorem sU:∀ (H:List Int) (t a:Int),(∀ i,i<H.length→1≤H.getD i 0)→cS a H=a+(ej t H).length
 | [],t,a,h=>by simp[cS,ej]
 |x::r,t,a,h=>by
  have h0:=h 0 (by simp);have hr:=sU r (t+1) (a+(5+x)) (fun i hi=>by have:=h (i+1) (by simpa using hi);simpa using this);simp only[cS,ej,List.length_append,aH,hr];simp at h0;omega
theorem fQ.far{k:IntKind}{h h':PT aj}{lo hi:Nat}{s:Value}{xs:List Int}(hs:fQ k h lo hi s xs)(hk:∀ i B,lo≤i→i<hi→h.get i=some B→h'.get i=some B):aN k h' s xs:=by
 refine fQ.cR (lo:=lo) (hi:=hi) ?_
 rcases hs with hs | ⟨b,cap,e,hl,hh,hb⟩
 ·exact .inl hs
 ·exact .inr ⟨b,cap,e,hl,hh,hk b _ hl hh hb⟩
def pJ(k:IntKind)(h:PT aj)(N:Nat)(s:Value)(xs:List Int):Prop:=(s = .slice none 0 0∧xs=[])∨∃ b cap,s = .slice (some ⟨b,0,none⟩) xs.length cap∧N≤b∧h.get b=some (.cells (PT.ofList .leaf 0 (xs.map (.int k))) false)
theorem pJ.cR{k:IntKind}{h:PT aj}{N:Nat}{s:Value}{xs:List Int}(hs:pJ k h N s xs):aN k h s xs:=by
 rcases hs with hs | ⟨b,cap,e,_,hb⟩
 ·exact .inl hs
 ·exact fQ.cR (lo:=0) (hi:=b+1) (.inr ⟨b,cap,e,Nat.zero_le _,Nat.lt_succ_self _,hb⟩)
theorem fQ.ZC{k:IntKind}{h h':PT aj}{lo hi N:Nat}{s:Value}{xs:List Int}(hs:fQ k h lo hi s xs)(hN:N≤lo)(hk:∀ i B,lo≤i→i<hi→h.get i=some B→h'.get i=some B):pJ k h' N s xs:=by
 rcases hs with hs | ⟨b,cap,e,hl,hh,hb⟩
 ·exact .inl hs
 ·exact .inr ⟨b,cap,e,Nat.le_trans hN hl,hk b _ hl hh hb⟩
theorem bg.Px{k:IntKind}{h:PT aj}{lo N:Nat}{s:Value}{xs:List Int}(hN:N≤lo)(hs:bg k h lo s xs):pJ k h N s xs:=by
 rcases hs with hs | ⟨b,e,hl,hb⟩
 ·exact .inl hs
 ·exact .inr ⟨b,_,e,Nat.le_trans hN hl,hb⟩
def cY(sl en bu lo V:Int)(H:List Int):List (Int×Int×Int):=
 iD 1 0 1 sl.toNat++iD 2 0 (bH en sl bu).toNat (bH en sl bu).toNat++iD 3 0 1 1++iD 4 0 3 (3*lo).toNat++iD 5 0 1 lo.toNat++iD 6 0 1 6++iD 7 1 1 H.length++iD 8 0 7 (V*7).toNat++ej 1 H
theorem ZD{O:Over}(o17:O 209=mN)(o47:O 100=fk)(o48:O 210=yy)(th sl en bu kd dn t0 t1 t2 t3 t4 t5 lo tr ba:Int)(s:Value)(xs:List Int)(h:PT aj)(N:Nat)(hW:bQ h N)(hs:aN .u64 h s xs)(hl:fR xs=true):
  cE prog O 142 [.agg ⟨[.int .i64 th,.int .i64 sl,.int .u8 en,.int .i64 bu,.int .u8 kd,.int .i64 dn,s,.int .i64 t0,.int .i64 t1,.int .i64 t2,.int .i64 t3,.int .i64 t4,.int .i64 t5,.int .i64 lo,.int .i64 tr,.int .i64 ba]⟩] h N
   fun v h' n'=>(gq th sl en bu kd dn t0 t1 t2 t3 t4 t5 lo tr ba xs=false∧v = .tuple ⟨[.pointer none,.int .i64 2]⟩∧Kept h h')∨(gq th sl en bu kd dn t0 t1 t2 t3 t4 t5 lo tr ba xs=true∧∃ lb cv hv wv,v = .tuple ⟨[.pointer (some ⟨lb,0,none⟩),.int .i64 0]⟩∧Kept h h'∧N≤lb∧
    h'.get lb=some (.cells (PT.ofList .leaf 0 [Value.int .i64 th,.int .i64 sl,.int .u8 en,.int .i64 bu,.int .u8 kd,.int .i64 dn,cv,.int .i64 t0,.int .i64 t1,.int .i64 t2,.int .i64 t3,.int .i64 t4,.int .i64 t5,.int .i64 lo,.int .i64 tr,.int .i64 ba,.int .i64 (0),.int .i64 (0+sl*1),.int .i64 (0+sl*1+1*bH en sl bu),.int .i64 (0+sl*1+1*bH en sl bu+1),.int .i64 (0+sl*1+1*bH en sl bu+1+lo*3),.int .i64 (0+sl*1+1*bH en sl bu+1+lo*3+lo*1),.int .i64 (0+sl*1+1*bH en sl bu+1+lo*3+lo*1+6),.int .i64 (cL sl en bu lo (hts 1 [t0,t1,t2,t3,t4,t5])),.int .i64 (cL sl en bu lo (hts 1 [t0,t1,t2,t3,t4,t5])+aC kd dn xs*7),.int .i64 (cS (cL sl en bu lo (hts 1 [t0,t1,t2,t3,t4,t5])+aC kd dn xs*7) (hts 1 [t0,t1,t2,t3,t4,t5])),hv,wv]) false)∧pJ .u64 h' N cv xs∧pJ .i64 h' N hv (hts 1 [t0,t1,t2,t3,t4,t5])∧(∀ b k c,wv = .slice (some ⟨b,0,none⟩) k c→N≤b)∧
    iQ 3 h' wv (gd (cY sl en bu lo (aC kd dn xs) (hts 1 [t0,t1,t2,t3,t4,t5]))) (cY sl en bu lo (aC kd dn xs) (hts 1 [t0,t1,t2,t3,t4,t5])).length):=by
 have hrd:=fun h' hk z f d ops r K m n=>@gI _ _ h' _ _ hs z f d ops r K m n hk;obtain⟨a,cap,rfl,-⟩:=hs.len;refine ay (N:=186) func142 rfl rfl ?_;intro z hP hO hro hN hQ
 repeat' first|simp(disch:=try exact yj) only[go_sem, *,results142,mN,mK] | (first|apply dI|apply dD|apply dJ|apply dF|apply dG|apply dH|apply dK|apply dL)<;>intro _ | (first|apply ez|apply eA|apply eB|apply eC)<;>intro _ |refine aB (id:=31) (L:=bF) (by kernel_rfl) (by kernel_rfl) ?_
 ·exact⟨by first|rfl|simp[dO],hW.kept (Nat.le_refl _)⟩
 ·rename_i mM;have aqu:=ur (cr (by simpa using mM)).1;refine Oq _ (Lc (hs.keep ?_) ?_ ?_ qJ) ?_
  ·(repeat first|assumption|exact Kept.refl _ |refine Kept.set' (by assumption) ?_ ?_ |omega)
  ·(repeat refine bQ.set' qJ ?_);first|assumption|exact bQ.mono (by assumption) qJ
  ·simp(disch:=try exact yj) only[go_sem, *]
  ·rintro cv h2 n2 ⟨hn2,Fx,AF,hk2,hsame⟩;obtain⟨ca,cc,rfl,-⟩:=AF.cR.len;have e2:h2.get (N+1)=_:=(hsame (N+1) qJ).trans (by rw[az qJ,aI]);have e1:h2.get N=_:=(hsame N qJ).trans (by rw[az qJ,az qJ,aI]);have hkh:∀ i,i<N→h2.get i=h.get i:=fun i hi=>(hsame i qJ).trans (by rw[az qJ,az qJ,az qJ]);clear hsame hk2;have Zv:=mM;obtain⟨c1,⟨c2,c2'⟩,⟨c3,c3'⟩,⟨c4,c4'⟩,⟨c5,c5'⟩,⟨c6,c7,c8,c9,RV,L9⟩,IX,Pn⟩:=cr (by simpa using Zv)
   repeat' first|simp(disch:=try exact yj) only[go_sem, *,results142] | (first|apply dI|apply dD|apply dJ|apply dF|apply dG|apply dH|apply dK|apply dL)<;>intro _ | (first|apply ez|apply eA|apply eB|apply eC)<;>intro _ |refine aB (id:=31) (L:=bF) (by kernel_rfl) (by kernel_rfl) ?_
   have hlen:(hts 1 [t0,t1,t2,t3,t4,t5]).length≤1024:=by simp[hts];omega
   refine a_ (fun t m h' n'=>∃ (i:Nat) (H:List Int) (hv:Value),i≤6∧t=6-i∧H++hts (i+1) ([t0,t1,t2,t3,t4,t5].drop i)=hts 1 [t0,t1,t2,t3,t4,t5]∧
    m.n=186∧m.fF=[]∧m.get 1 = .pointer (some ⟨N,0,none⟩)∧m.get 5 = .pointer (some ⟨N+1,0,none⟩)∧m.get 6 = .int .i64 (i+1)∧
    (∀ j,j<n2→j≠N+1→h'.get j=h2.get j)∧bQ h' n'∧n2≤n'∧h'.get (N+1)=some (.cells (PT.ofList .leaf 0 [Value.int .i64 th,.int .i64 sl,.int .u8 en,.int .i64 bu,.int .u8 kd,.int .i64 dn,.slice ca xs.length cc,.int .i64 t0,.int .i64 t1,.int .i64 t2,.int .i64 t3,.int .i64 t4,.int .i64 t5,.int .i64 lo,.int .i64 tr,.int .i64 ba,.int .i64 0,.int .i64 0,.int .i64 0,.int .i64 0,.int .i64 0,.int .i64 0,.int .i64 0,.int .i64 0,.int .i64 0,.int .i64 0,hv,.slice none 0 0]) false)∧bg .i64 h' n2 hv H) 6 ?_ ?_
   ·refine⟨0,[],.slice none 0 0,by omega,by omega,by simp,?_⟩;simp(disch:=try exact yj) only[go_sem, *];refine⟨fun j h1 h2=>by rw[az qJ],?_,Nat.le_refl _,.inl ⟨rfl,rfl⟩⟩
    (repeat refine bQ.set' qJ ?_);first|assumption|exact bQ.mono (by assumption) qJ
   ·rintro t m h' n' ih ⟨i,H,hv,hi,rfl,hH,m1,m2,m3,m4,m5,q1,q2,q3,q4,q6⟩;have mR:h'.get N=_:=(q1 N qJ qJ).trans e1;by_cases hi6:i<6
    ·obtain⟨ti,ht1,ht2,ht3⟩:∃ ti,([Value.int .i64 th,.int .i64 sl,.int .u8 en,.int .i64 bu,.int .u8 kd,.int .i64 dn,.slice a xs.length cap,.int .i64 t0,.int .i64 t1,.int .i64 t2,.int .i64 t3,.int .i64 t4,.int .i64 t5,.int .i64 lo,.int .i64 tr,.int .i64 ba]:List Value)[7+((i:Int)+1-1).toNat]? = some (.int .i64 ti)∧[t0,t1,t2,t3,t4,t5].drop i=ti::[t0,t1,t2,t3,t4,t5].drop (i+1)∧0≤ti:=by
      have:i=0∨i=1∨i=2∨i=3∨i=4∨i=5:=by omega
      rcases this with rfl|rfl|rfl|rfl|rfl|rfl
      all_goals exact⟨_,rfl,rfl,by assumption⟩
     rw[ht2,hts] at hH;have IY:(i:Int)+1≤6:=by omega
     have aeF:H.length+ti.toNat≤1024:=by
      rw[←hH] at hlen;simp at hlen;omega
     clear ht2
     repeat' first|simp(disch:=try exact yj) only[go_sem, *,results142] | (first|apply dI|apply dD|apply dJ|apply dF|apply dG|apply dH|apply dK|apply dL)<;>intro _ | (first|apply ez|apply eA|apply eB|apply eC)<;>intro _ |refine aB (id:=31) (L:=bF) (by kernel_rfl) (by kernel_rfl) ?_
     refine a_ (fun t m h' n'=>∃ (j:Nat) (X:List Int) (hv:Value),j≤ti.toNat∧t=ti.toNat-j∧X++List.replicate (ti.toNat-j) ((i:Int)+1)=H++List.replicate ti.toNat ((i:Int)+1)∧
      m.n=186∧m.fF=[]∧m.get 1 = .pointer (some ⟨N,0,none⟩)∧m.get 5 = .pointer (some ⟨N+1,0,none⟩)∧m.get 6 = .int .i64 (i+1)∧m.get 7 = .int .i64 j∧
      (∀ j,j<n2→j≠N+1→h'.get j=h2.get j)∧bQ h' n'∧n2≤n'∧h'.get (N+1)=some (.cells (PT.ofList .leaf 0 [Value.int .i64 th,.int .i64 sl,.int .u8 en,.int .i64 bu,.int .u8 kd,.int .i64 dn,.slice ca xs.length cc,.int .i64 t0,.int .i64 t1,.int .i64 t2,.int .i64 t3,.int .i64 t4,.int .i64 t5,.int .i64 lo,.int .i64 tr,.int .i64 ba,.int .i64 0,.int .i64 0,.int .i64 0,.int .i64 0,.int .i64 0,.int .i64 0,.int .i64 0,.int .i64 0,.int .i64 0,.int .i64 0,hv,.slice none 0 0]) false)∧bg .i64 h' n2 hv X) ti.toNat ?_ ?_
     ·refine⟨0,H,hv,by omega,by omega,rfl,?_⟩;simp(disch:=try exact yj) only[go_sem, *];exact q1
     ·clear m1 m2 m3 m4 m5 q1 q2 q3 q4 q6 mR;rintro t m h' n' ih2 ⟨j,X,hv,hj,rfl,hX,m1,m2,m3,m4,m5,m6,q1,q2,q3,q4,q6⟩;have mR:h'.get N=_:=(q1 N qJ qJ).trans e1;have Us:X.length+(ti.toNat-j)≤1024:=by
       have:=congrArg List.length hX;simp at this;omega
      by_cases hjt:j<ti.toNat
      ·have hj7:(j:Int)<ti:=by omega
       clear ih;have Pp:X++[(i:Int)+1]++List.replicate (ti.toNat-(j+1)) ((i:Int)+1)=H++List.replicate ti.toNat ((i:Int)+1):=by
        rw[←hX,show ti.toNat-j=(ti.toNat-(j+1))+1 by omega,List.replicate_succ];simp
       clear hX hH
       rcases q6 with ⟨rfl,hx⟩ | ⟨b,rfl,zn,mT⟩
       ·subst hx
        repeat' first|simp(disch:=try exact yj) only[go_sem, *,results142] | (first|apply dI|apply dD|apply dJ|apply dF|apply dG|apply dH|apply dK|apply dL)<;>intro _ | (first|apply ez|apply eA|apply eB|apply eC)<;>intro _ |refine aB (id:=31) (L:=bF) (by kernel_rfl) (by kernel_rfl) ?_
        refine ih2 (ti.toNat-(j+1)) _ _ _ qJ ⟨j+1,[(i:Int)+1],.slice (some ⟨n'+1,0,none⟩) 1 (aA+1),by omega,by omega,Pp,?_⟩;clear ih2;simp(disch:=try exact yj) only[go_sem, *];refine⟨by simp,fun j h1 h2=>?_,?_,by omega,.inr ⟨n'+1,rfl,by omega,?_⟩⟩
        ·simp(disch:=omega) only[az];exact q1 j h1 h2
        ·(repeat refine bQ.set' qJ ?_);first|assumption|exact bQ.mono (by assumption) qJ
        ·simp(disch:=omega) only[go_sem]
       ·have VQ:=q2.lt mT
        repeat' first|simp(disch:=try exact yj) only[go_sem, *,results142] | (first|apply dI|apply dD|apply dJ|apply dF|apply dG|apply dH|apply dK|apply dL)<;>intro _ | (first|apply ez|apply eA|apply eB|apply eC)<;>intro _ |refine aB (id:=31) (L:=bF) (by kernel_rfl) (by kernel_rfl) ?_
        refine ih2 (ti.toNat-(j+1)) _ _ _ qJ ⟨j+1,X++[(i:Int)+1],.slice (some ⟨n'+1,0,none⟩) (X.length+1) (aA+1),by omega,by omega,Pp,?_⟩;clear ih2;simp(disch:=try exact yj) only[go_sem, *];refine⟨by simp,fun j h1 h2=>?_,?_,by omega,.inr ⟨n'+1,?_,by omega,?_⟩⟩
        ·simp(disch:=omega) only[az];exact q1 j h1 h2
        ·(repeat refine bQ.set' qJ ?_);first|assumption|exact bQ.mono (by assumption) qJ
        ·simp
        ·simp(disch:=omega) only[go_sem,List.map_append]
      ·have hj7: ¬ (j:Int)<ti:=by omega
       clear ih2;have Pp:X=H++List.replicate ti.toNat ((i:Int)+1):=by
        rw[←hX,show ti.toNat-j=0 by omega];simp
       rw[←List.append_assoc,←Pp] at hH;clear hX Pp
       repeat' first|simp(disch:=try exact yj) only[go_sem, *,results142] | (first|apply dI|apply dD|apply dJ|apply dF|apply dG|apply dH|apply dK|apply dL)<;>intro _ | (first|apply ez|apply eA|apply eB|apply eC)<;>intro _ |refine aB (id:=31) (L:=bF) (by kernel_rfl) (by kernel_rfl) ?_
       refine ih (6-(i+1)) _ _ _ qJ ⟨i+1,X,hv,by omega,by omega,by simpa using hH,?_⟩;clear ih;simp(disch:=try exact yj) only[go_sem, *];exact⟨by simp,q1⟩
    ·have IY: ¬ (i:Int)+1≤6:=by omega
     obtain rfl:i=6:=by omega
     have hH2:H=hts 1 [t0,t1,t2,t3,t4,t5]:=by simpa [hts] using hH
     subst hH2;clear ih hH hi hi6;have Pq:∀ i,i<(hts 1 [t0,t1,t2,t3,t4,t5]).length→1≤(hts 1 [t0,t1,t2,t3,t4,t5]).getD i 0∧(hts 1 [t0,t1,t2,t3,t4,t5]).getD i 0≤6:=fun i hi=>by
      refine mL [t0,t1,t2,t3,t4,t5] 1 1 6 qJ (by simp) _ ?_;simp[List.getD,hi]
     generalize hts 1 [t0,t1,t2,t3,t4,t5]=H at*;have IZ:H.length≤1024:=hlen;obtain⟨ha,hc,rfl,-⟩:=q6.cR.len;have d1 : -1000≤sl:=by omega
     have d2:sl≤1000:=by omega
     have d3 : -1000≤bu:=by omega
     have d4:bu≤1000:=by omega
     obtain⟨d5,d6⟩:=gJ (en:=en) c3 c3' c4 c4';obtain⟨d7,d8⟩:=ji c1;have hk':Kept h h':=fun i B e=>by
      have:=hW.lt e;rw[q1 i qJ qJ,hkh i this];exact e
     have aFq:cq kd dn xs=true:=c1
     repeat' first|simp(disch:=try exact yj) only[go_sem, *,results142,fk] | (first|apply dI|apply dD|apply dJ|apply dF|apply dG|apply dH|apply dK|apply dL)<;>intro _ | (first|apply ez|apply eA|apply eB|apply eC)<;>intro _ |refine aB (id:=31) (L:=bF) (by kernel_rfl) (by kernel_rfl) ?_
     ·
      obtain rfl:en=2:=by omega
      have g0:GS h' n' (N+1) h' n' (.slice none 0 0) []:=⟨q2,Nat.le_refl _,.inl ⟨rfl,rfl,rfl⟩,(fun b k c e=>by cases e),fun _ _ _=>rfl⟩;refine cN (bA (h3:=h') (n3:=n') g0 qJ q4 rfl rfl (by simp only[List.length_append,aH,List.length_nil];omega) qJ qJ qJ qJ qJ) ?_;rintro v hq0 nq0 ⟨rfl,wq0,bq0,gq0,fq0⟩;simp only[List.set_cons_succ,List.set_cons_zero] at bq0;have eq0:hq0.get N=_:=(fq0 N qJ qJ).trans mR
      repeat' first|simp(disch:=try exact yj) only[go_sem, *,results142] | (first|apply dI|apply dD|apply dJ|apply dF|apply dG|apply dH|apply dK|apply dL)<;>intro _ | (first|apply ez|apply eA|apply eB|apply eC)<;>intro _ |refine aB (id:=31) (L:=bF) (by kernel_rfl) (by kernel_rfl) ?_
      refine cN (bA (h3:=h') (n3:=n') (gq0.eD qJ rfl) qJ aI rfl rfl (by simp only[List.length_append,aH,List.length_nil];omega) qJ qJ qJ qJ qJ) ?_;rintro v hq1 nq1 ⟨rfl,wq1,bq1,gq1,fq1⟩;simp only[List.set_cons_succ,List.set_cons_zero] at bq1;have eq1:hq1.get N=_:=(fq1 N qJ qJ).trans mR
      repeat' first|simp(disch:=try exact yj) only[go_sem, *,results142] | (first|apply dI|apply dD|apply dJ|apply dF|apply dG|apply dH|apply dK|apply dL)<;>intro _ | (first|apply ez|apply eA|apply eB|apply eC)<;>intro _ |refine aB (id:=31) (L:=bF) (by kernel_rfl) (by kernel_rfl) ?_
      refine cN (bA (h3:=h') (n3:=n') (gq1.eD qJ rfl) qJ aI rfl rfl (by simp only[List.length_append,aH,List.length_nil];omega) qJ qJ qJ qJ qJ) ?_;rintro v Py nq2 ⟨rfl,wq2,bq2,gq2,fq2⟩;simp only[List.set_cons_succ,List.set_cons_zero] at bq2;have eq2:Py.get N=_:=(fq2 N qJ qJ).trans mR
      repeat' first|simp(disch:=try exact yj) only[go_sem, *,results142] | (first|apply dI|apply dD|apply dJ|apply dF|apply dG|apply dH|apply dK|apply dL)<;>intro _ | (first|apply ez|apply eA|apply eB|apply eC)<;>intro _ |refine aB (id:=31) (L:=bF) (by kernel_rfl) (by kernel_rfl) ?_
      refine cN (bA (h3:=h') (n3:=n') (gq2.eD qJ rfl) qJ aI rfl rfl (by simp only[List.length_append,aH,List.length_nil];omega) qJ qJ qJ qJ qJ) ?_;rintro v hq3 nq3 ⟨rfl,wq3,bq3,gq3,fq3⟩;simp only[List.set_cons_succ,List.set_cons_zero] at bq3;have eq3:hq3.get N=_:=(fq3 N qJ qJ).trans mR
      repeat' first|simp(disch:=try exact yj) only[go_sem, *,results142] | (first|apply dI|apply dD|apply dJ|apply dF|apply dG|apply dH|apply dK|apply dL)<;>intro _ | (first|apply ez|apply eA|apply eB|apply eC)<;>intro _ |refine aB (id:=31) (L:=bF) (by kernel_rfl) (by kernel_rfl) ?_
      refine cN (bA (h3:=h') (n3:=n') (gq3.eD qJ rfl) qJ aI rfl rfl (by simp only[List.length_append,aH,List.length_nil];omega) qJ qJ qJ qJ qJ) ?_;rintro v hq4 nq4 ⟨rfl,wq4,bq4,gq4,fq4⟩;simp only[List.set_cons_succ,List.set_cons_zero] at bq4;have eq4:hq4.get N=_:=(fq4 N qJ qJ).trans mR
      repeat' first|simp(disch:=try exact yj) only[go_sem, *,results142] | (first|apply dI|apply dD|apply dJ|apply dF|apply dG|apply dH|apply dK|apply dL)<;>intro _ | (first|apply ez|apply eA|apply eB|apply eC)<;>intro _ |refine aB (id:=31) (L:=bF) (by kernel_rfl) (by kernel_rfl) ?_
      refine cN (bA (h3:=h') (n3:=n') (gq4.eD qJ rfl) qJ aI rfl rfl (by simp only[List.length_append,aH,List.length_nil];omega) qJ qJ qJ qJ qJ) ?_;rintro v hq5 nq5 ⟨rfl,wq5,bq5,gq5,fq5⟩;simp only[List.set_cons_succ,List.set_cons_zero] at bq5;have eq5:hq5.get N=_:=(fq5 N qJ qJ).trans mR
      repeat' first|simp(disch:=try exact yj) only[go_sem, *,results142] | (first|apply dI|apply dD|apply dJ|apply dF|apply dG|apply dH|apply dK|apply dL)<;>intro _ | (first|apply ez|apply eA|apply eB|apply eC)<;>intro _ |refine aB (id:=31) (L:=bF) (by kernel_rfl) (by kernel_rfl) ?_
      refine cN (bA (h3:=h') (n3:=n') (gq5.eD qJ rfl) qJ aI rfl rfl (by simp only[List.length_append,aH,List.length_nil];omega) qJ qJ qJ qJ qJ) ?_;rintro v hq6 nq6 ⟨rfl,wq6,bq6,gq6,fq6⟩;simp only[List.set_cons_succ,List.set_cons_zero] at bq6;have eq6:hq6.get N=_:=(fq6 N qJ qJ).trans mR
      repeat' first|simp(disch:=try exact yj) only[go_sem, *,results142] | (first|apply dI|apply dD|apply dJ|apply dF|apply dG|apply dH|apply dK|apply dL)<;>intro _ | (first|apply ez|apply eA|apply eB|apply eC)<;>intro _ |refine aB (id:=31) (L:=bF) (by kernel_rfl) (by kernel_rfl) ?_
      refine cN (bA (h3:=h') (n3:=n') (gq6.eD qJ rfl) qJ aI rfl rfl (by simp only[List.length_append,aH,List.length_nil];omega) qJ qJ qJ qJ qJ) ?_;rintro v hq7 nq7 ⟨rfl,wq7,WW,I_,WX⟩;simp only[List.set_cons_succ,List.set_cons_zero] at WW;have eq7:hq7.get N=_:=(WX N qJ qJ).trans mR;obtain⟨W8,Ek⟩:∃ W8,(((((((([]++iD 1 0 (1:Int).toNat (sl:Int).toNat)++iD 2 0 (2*sl:Int).toNat (2*sl:Int).toNat)++iD 3 0 (1:Int).toNat (1:Int).toNat)++iD 4 0 (3:Int).toNat (3*lo:Int).toNat)++iD 5 0 (1:Int).toNat (lo:Int).toNat)++iD 6 0 (1:Int).toNat (6:Int).toNat)++iD 7 1 (1:Int).toNat (H.length:Int).toNat)++iD 8 0 (7:Int).toNat (aC kd dn xs*7:Int).toNat)=W8:=⟨_,rfl⟩;rw[Ek] at I_;have afh:W8.length≤4000:=by rw[←Ek];simp only[List.length_append,aH,List.length_nil];omega
      obtain⟨wa,wc,rfl⟩:=I_.len
      repeat' first|simp(disch:=try exact yj) only[go_sem, *,results142] | (first|apply dI|apply dD|apply dJ|apply dF|apply dG|apply dH|apply dK|apply dL)<;>intro _ | (first|apply ez|apply eA|apply eB|apply eC)<;>intro _ |refine aB (id:=31) (L:=bF) (by kernel_rfl) (by kernel_rfl) ?_
      have hE:bH 2 sl bu=2*sl:=by unfold bH;rw[if_neg qJ,if_pos qJ]
      refine a_ (fun t m h4 n4=>∃ (j:Nat) (wv:Value) (W:List (Int×Int×Int)),j≤H.length∧t=H.length-j∧W++ej (j+1) (H.drop j)=W8++ej 1 H∧W.length≤4000+11*j∧
       m.n=186∧m.fF=[]∧m.get 5 = .pointer (some ⟨N+1,0,none⟩)∧m.get 11 = .int .i64 (j+1)∧h4.get (N+1)=some (.cells (PT.ofList .leaf 0 [Value.int .i64 th,.int .i64 sl,.int .u8 2,.int .i64 bu,.int .u8 kd,.int .i64 dn,.slice ca xs.length cc,.int .i64 t0,.int .i64 t1,.int .i64 t2,.int .i64 t3,.int .i64 t4,.int .i64 t5,.int .i64 lo,.int .i64 tr,.int .i64 ba,.int .i64 (0),.int .i64 (0+sl*1),.int .i64 (0+sl*1+1*bH 2 sl bu),.int .i64 (0+sl*1+1*bH 2 sl bu+1),.int .i64 (0+sl*1+1*bH 2 sl bu+1+lo*3),.int .i64 (0+sl*1+1*bH 2 sl bu+1+lo*3+lo*1),.int .i64 (0+sl*1+1*bH 2 sl bu+1+lo*3+lo*1+6),.int .i64 (cL sl 2 bu lo H),.int .i64 (cL sl 2 bu lo H+aC kd dn xs*7),.int .i64 0,.slice ha H.length hc,wv]) false)∧GS h' n' (N+1) h4 n4 wv W) H.length ?_ ?_
      ·refine⟨0,.slice wa W8.length wc,W8,by omega,by omega,rfl,by omega,?_⟩;simp(disch:=try exact yj) only[go_sem, *];have hlW:W8.length=sl.toNat+(2*sl).toNat+1+(3*lo).toNat+lo.toNat+6+H.length+(aC kd dn xs*7).toNat:=by
        rw[←Ek];simp only[List.length_append,aH,List.length_nil];omega
       refine⟨?_,(I_.eD qJ rfl).eD qJ rfl⟩;refine congrArg (fun l=>aj.cells (PT.ofList .leaf 0 l) false) ?_;simp only[List.cons.injEq,Value.int.injEq,true_and,and_true,aH,hE,cL]
       repeat' first | (apply And.intro)|rfl|omega
      ·clear m1 m2 m3 m4 m5 q4 I_ WW eq7 WX;rintro t m h4 n4 ih ⟨j,wv,W,hj,rfl,Ja,rQ,m1,m2,m3,m4,r1,r2⟩;have r3:=r2.same;by_cases hlt:j<H.length
       ·rcases q6 with ⟨_,rfl⟩ | ⟨b,e,zn,mT⟩
        ·simp at hlt
        ·cases e;have VQ:=q2.lt mT;have hb4:=(r3 b qJ qJ).trans mT;obtain⟨hx1,hx2⟩:=Pq j hlt;have u_:(H.map (Value.int .i64))[((j:Int)+1-1).toNat]? = some (.int .i64 (H.getD j 0)):=by
          rw[show ((j:Int)+1-1).toNat=j by omega];simp[List.getElem?_map,hlt,List.getD]
         have JN:H.drop j=H.getD j 0::H.drop (j+1):=by rw[List.drop_eq_getElem_cons hlt];simp[List.getD,hlt]
         rw[JN,ej] at Ja;have IY:(j:Int)+1≤H.length:=by omega
         generalize H.getD j 0=x at*
         repeat' first|simp(disch:=try exact yj) only[go_sem, *,results142] | (first|apply dI|apply dD|apply dJ|apply dF|apply dG|apply dH|apply dK|apply dL)<;>intro _ | (first|apply ez|apply eA|apply eB|apply eC)<;>intro _ |refine aB (id:=31) (L:=bF) (by kernel_rfl) (by kernel_rfl) ?_
         refine yB (bA (h3:=h') (n3:=n') r2 qJ r1 rfl rfl qJ qJ qJ qJ qJ qJ) ?_;rintro v h5 n5 rd5 wr5 ⟨rfl,w5,b5,g5,f5⟩;simp only[List.set_cons_succ,List.set_cons_zero] at b5
         repeat' first|simp(disch:=try exact yj) only[go_sem, *,results142] | (first|apply dI|apply dD|apply dJ|apply dF|apply dG|apply dH|apply dK|apply dL)<;>intro _ | (first|apply ez|apply eA|apply eB|apply eC)<;>intro _ |refine aB (id:=31) (L:=bF) (by kernel_rfl) (by kernel_rfl) ?_
         refine ih (H.length-(j+1)) _ _ _ qJ ⟨j+1,w5,W++iD 9 (j+1) (5+x).toNat (5+x).toNat,by omega,by omega,?_,?_,?_⟩
         ·rw[←Ja,List.append_assoc];rfl
         ·simp only[List.length_append,aH];omega
         clear ih;simp(disch:=try exact yj) only[go_sem, *]
         first|exact⟨by simp,g5⟩ |simp
       ·have IY: ¬ (j:Int)+1≤H.length:=by omega
        clear ih;rw[List.drop_eq_nil_of_le qJ,ej,List.append_nil] at Ja;obtain⟨WY,RW,rfl⟩:=r2.len
        repeat' first|simp(disch:=try exact yj) only[go_sem, *,results142] | (first|apply dI|apply dD|apply dJ|apply dF|apply dG|apply dH|apply dK|apply dL)<;>intro _ | (first|apply ez|apply eA|apply eB|apply eC)<;>intro _ |refine aB (id:=31) (L:=bF) (by kernel_rfl) (by kernel_rfl) ?_
        have hlW:W8.length=sl.toNat+(2*sl).toNat+1+(3*lo).toNat+lo.toNat+6+H.length+(aC kd dn xs*7).toNat:=by
         rw[←Ek];simp only[List.length_append,aH,List.length_nil];omega
        have hte:=sU H 1 (cL sl 2 bu lo H+aC kd dn xs*7) (fun i hi=>(Pq i hi).1);have El:cY sl 2 bu lo (aC kd dn xs) H=W8++ej 1 H:=by
         rw[←Ek];unfold cY;rw[hE];rfl
        refine⟨N+1,.slice ca xs.length cc,.slice ha H.length hc,.slice WY (W8.length+(ej 1 H).length) RW,rfl,fun i B e=>?_,by omega,?_,AF.ZC qJ fun i B h1 h2 e=>?_,bg.Px qJ (bg.Ei q6 fun i B hi e=>?_),(fun b k c e=>by
         injection e with e1 e2 e3
         subst e1;have:=r2.new b _ _ rfl;omega),?_⟩
        ·have:=hW.lt e;rw[az qJ,r3 i qJ qJ,q1 i qJ qJ,hkh i this];exact e
        ·rw[aI];refine congrArg (fun l=>some (aj.cells (PT.ofList .leaf 0 l) false)) ?_;simp only[List.cons.injEq,Value.int.injEq,true_and,and_true];rw[hte];simp only[cL,hE];omega
        ·rw[az qJ,r3 i qJ qJ,q1 i qJ qJ];exact e
        ·have:=q2.lt e;rw[az qJ,r3 i qJ qJ];exact e
        ·subst Ja;have L6:∀ B,iQ 3 (h4.set (N+1) B) (.slice WY (W8++ej 1 H).length RW) (gd (W8++ej 1 H)) (W8++ej 1 H).length:=fun B=>(r2.eD qJ rfl).row;rw[El];simp only[List.length_append] at L6 ⊢;exact L6 _
     ·
      obtain rfl:en=3:=by omega
      have g0:GS h' n' (N+1) h' n' (.slice none 0 0) []:=⟨q2,Nat.le_refl _,.inl ⟨rfl,rfl,rfl⟩,(fun b k c e=>by cases e),fun _ _ _=>rfl⟩;refine cN (bA (h3:=h') (n3:=n') g0 qJ q4 rfl rfl (by simp only[List.length_append,aH,List.length_nil];omega) qJ qJ qJ qJ qJ) ?_;rintro v hq0 nq0 ⟨rfl,wq0,bq0,gq0,fq0⟩;simp only[List.set_cons_succ,List.set_cons_zero] at bq0;have eq0:hq0.get N=_:=(fq0 N qJ qJ).trans mR
      repeat' first|simp(disch:=try exact yj) only[go_sem, *,results142] | (first|apply dI|apply dD|apply dJ|apply dF|apply dG|apply dH|apply dK|apply dL)<;>intro _ | (first|apply ez|apply eA|apply eB|apply eC)<;>intro _ |refine aB (id:=31) (L:=bF) (by kernel_rfl) (by kernel_rfl) ?_
      refine cN (bA (h3:=h') (n3:=n') (gq0.eD qJ rfl) qJ aI rfl rfl (by simp only[List.length_append,aH,List.length_nil];omega) qJ qJ qJ qJ qJ) ?_;rintro v hq1 nq1 ⟨rfl,wq1,bq1,gq1,fq1⟩;simp only[List.set_cons_succ,List.set_cons_zero] at bq1;have eq1:hq1.get N=_:=(fq1 N qJ qJ).trans mR
      repeat' first|simp(disch:=try exact yj) only[go_sem, *,results142] | (first|apply dI|apply dD|apply dJ|apply dF|apply dG|apply dH|apply dK|apply dL)<;>intro _ | (first|apply ez|apply eA|apply eB|apply eC)<;>intro _ |refine aB (id:=31) (L:=bF) (by kernel_rfl) (by kernel_rfl) ?_
      refine cN (bA (h3:=h') (n3:=n') (gq1.eD qJ rfl) qJ aI rfl rfl (by simp only[List.length_append,aH,List.length_nil];omega) qJ qJ qJ qJ qJ) ?_;rintro v Py nq2 ⟨rfl,wq2,bq2,gq2,fq2⟩;simp only[List.set_cons_succ,List.set_cons_zero] at bq2;have eq2:Py.get N=_:=(fq2 N qJ qJ).trans mR
      repeat' first|simp(disch:=try exact yj) only[go_sem, *,results142] | (first|apply dI|apply dD|apply dJ|apply dF|apply dG|apply dH|apply dK|apply dL)<;>intro _ | (first|apply ez|apply eA|apply eB|apply eC)<;>intro _ |refine aB (id:=31) (L:=bF) (by kernel_rfl) (by kernel_rfl) ?_
      refine cN (bA (h3:=h') (n3:=n') (gq2.eD qJ rfl) qJ aI rfl rfl (by simp only[List.length_append,aH,List.length_nil];omega) qJ qJ qJ qJ qJ) ?_;rintro v hq3 nq3 ⟨rfl,wq3,bq3,gq3,fq3⟩;simp only[List.set_cons_succ,List.set_cons_zero] at bq3;have eq3:hq3.get N=_:=(fq3 N qJ qJ).trans mR
      repeat' first|simp(disch:=try exact yj) only[go_sem, *,results142] | (first|apply dI|apply dD|apply dJ|apply dF|apply dG|apply dH|apply dK|apply dL)<;>intro _ | (first|apply ez|apply eA|apply eB|apply eC)<;>intro _ |refine aB (id:=31) (L:=bF) (by kernel_rfl) (by kernel_rfl) ?_
      refine cN (bA (h3:=h') (n3:=n') (gq3.eD qJ rfl) qJ aI rfl rfl (by simp only[List.length_append,aH,List.length_nil];omega) qJ qJ qJ qJ qJ) ?_;rintro v hq4 nq4 ⟨rfl,wq4,bq4,gq4,fq4⟩;simp only[List.set_cons_succ,List.set_cons_zero] at bq4;have eq4:hq4.get N=_:=(fq4 N qJ qJ).trans mR
      repeat' first|simp(disch:=try exact yj) only[go_sem, *,results142] | (first|apply dI|apply dD|apply dJ|apply dF|apply dG|apply dH|apply dK|apply dL)<;>intro _ | (first|apply ez|apply eA|apply eB|apply eC)<;>intro _ |refine aB (id:=31) (L:=bF) (by kernel_rfl) (by kernel_rfl) ?_
      refine cN (bA (h3:=h') (n3:=n') (gq4.eD qJ rfl) qJ aI rfl rfl (by simp only[List.length_append,aH,List.length_nil];omega) qJ qJ qJ qJ qJ) ?_;rintro v hq5 nq5 ⟨rfl,wq5,bq5,gq5,fq5⟩;simp only[List.set_cons_succ,List.set_cons_zero] at bq5;have eq5:hq5.get N=_:=(fq5 N qJ qJ).trans mR
      repeat' first|simp(disch:=try exact yj) only[go_sem, *,results142] | (first|apply dI|apply dD|apply dJ|apply dF|apply dG|apply dH|apply dK|apply dL)<;>intro _ | (first|apply ez|apply eA|apply eB|apply eC)<;>intro _ |refine aB (id:=31) (L:=bF) (by kernel_rfl) (by kernel_rfl) ?_
      refine cN (bA (h3:=h') (n3:=n') (gq5.eD qJ rfl) qJ aI rfl rfl (by simp only[List.length_append,aH,List.length_nil];omega) qJ qJ qJ qJ qJ) ?_;rintro v hq6 nq6 ⟨rfl,wq6,bq6,gq6,fq6⟩;simp only[List.set_cons_succ,List.set_cons_zero] at bq6;have eq6:hq6.get N=_:=(fq6 N qJ qJ).trans mR
      repeat' first|simp(disch:=try exact yj) only[go_sem, *,results142] | (first|apply dI|apply dD|apply dJ|apply dF|apply dG|apply dH|apply dK|apply dL)<;>intro _ | (first|apply ez|apply eA|apply eB|apply eC)<;>intro _ |refine aB (id:=31) (L:=bF) (by kernel_rfl) (by kernel_rfl) ?_
      refine cN (bA (h3:=h') (n3:=n') (gq6.eD qJ rfl) qJ aI rfl rfl (by simp only[List.length_append,aH,List.length_nil];omega) qJ qJ qJ qJ qJ) ?_;rintro v hq7 nq7 ⟨rfl,wq7,WW,I_,WX⟩;simp only[List.set_cons_succ,List.set_cons_zero] at WW;have eq7:hq7.get N=_:=(WX N qJ qJ).trans mR;obtain⟨W8,Ek⟩:∃ W8,(((((((([]++iD 1 0 (1:Int).toNat (sl:Int).toNat)++iD 2 0 (4*bu:Int).toNat (4*bu:Int).toNat)++iD 3 0 (1:Int).toNat (1:Int).toNat)++iD 4 0 (3:Int).toNat (3*lo:Int).toNat)++iD 5 0 (1:Int).toNat (lo:Int).toNat)++iD 6 0 (1:Int).toNat (6:Int).toNat)++iD 7 1 (1:Int).toNat (H.length:Int).toNat)++iD 8 0 (7:Int).toNat (aC kd dn xs*7:Int).toNat)=W8:=⟨_,rfl⟩;rw[Ek] at I_;have afh:W8.length≤4000:=by rw[←Ek];simp only[List.length_append,aH,List.length_nil];omega
      obtain⟨wa,wc,rfl⟩:=I_.len
      repeat' first|simp(disch:=try exact yj) only[go_sem, *,results142] | (first|apply dI|apply dD|apply dJ|apply dF|apply dG|apply dH|apply dK|apply dL)<;>intro _ | (first|apply ez|apply eA|apply eB|apply eC)<;>intro _ |refine aB (id:=31) (L:=bF) (by kernel_rfl) (by kernel_rfl) ?_
      have hE:bH 3 sl bu=4*bu:=by unfold bH;rw[if_neg qJ,if_neg qJ,if_pos qJ]
      refine a_ (fun t m h4 n4=>∃ (j:Nat) (wv:Value) (W:List (Int×Int×Int)),j≤H.length∧t=H.length-j∧W++ej (j+1) (H.drop j)=W8++ej 1 H∧W.length≤4000+11*j∧
       m.n=186∧m.fF=[]∧m.get 5 = .pointer (some ⟨N+1,0,none⟩)∧m.get 11 = .int .i64 (j+1)∧h4.get (N+1)=some (.cells (PT.ofList .leaf 0 [Value.int .i64 th,.int .i64 sl,.int .u8 3,.int .i64 bu,.int .u8 kd,.int .i64 dn,.slice ca xs.length cc,.int .i64 t0,.int .i64 t1,.int .i64 t2,.int .i64 t3,.int .i64 t4,.int .i64 t5,.int .i64 lo,.int .i64 tr,.int .i64 ba,.int .i64 (0),.int .i64 (0+sl*1),.int .i64 (0+sl*1+1*bH 3 sl bu),.int .i64 (0+sl*1+1*bH 3 sl bu+1),.int .i64 (0+sl*1+1*bH 3 sl bu+1+lo*3),.int .i64 (0+sl*1+1*bH 3 sl bu+1+lo*3+lo*1),.int .i64 (0+sl*1+1*bH 3 sl bu+1+lo*3+lo*1+6),.int .i64 (cL sl 3 bu lo H),.int .i64 (cL sl 3 bu lo H+aC kd dn xs*7),.int .i64 0,.slice ha H.length hc,wv]) false)∧GS h' n' (N+1) h4 n4 wv W) H.length ?_ ?_
      ·refine⟨0,.slice wa W8.length wc,W8,by omega,by omega,rfl,by omega,?_⟩;simp(disch:=try exact yj) only[go_sem, *];have hlW:W8.length=sl.toNat+(4*bu).toNat+1+(3*lo).toNat+lo.toNat+6+H.length+(aC kd dn xs*7).toNat:=by
        rw[←Ek];simp only[List.length_append,aH,List.length_nil];omega
       refine⟨?_,(I_.eD qJ rfl).eD qJ rfl⟩;refine congrArg (fun l=>aj.cells (PT.ofList .leaf 0 l) false) ?_;simp only[List.cons.injEq,Value.int.injEq,true_and,and_true,aH,hE,cL]
       repeat' first | (apply And.intro)|rfl|omega
      ·clear m1 m2 m3 m4 m5 q4 I_ WW eq7 WX;rintro t m h4 n4 ih ⟨j,wv,W,hj,rfl,Ja,rQ,m1,m2,m3,m4,r1,r2⟩;have r3:=r2.same;by_cases hlt:j<H.length
       ·rcases q6 with ⟨_,rfl⟩ | ⟨b,e,zn,mT⟩
        ·simp at hlt
        ·cases e;have VQ:=q2.lt mT;have hb4:=(r3 b qJ qJ).trans mT;obtain⟨hx1,hx2⟩:=Pq j hlt;have u_:(H.map (Value.int .i64))[((j:Int)+1-1).toNat]? = some (.int .i64 (H.getD j 0)):=by
          rw[show ((j:Int)+1-1).toNat=j by omega];simp[List.getElem?_map,hlt,List.getD]
         have JN:H.drop j=H.getD j 0::H.drop (j+1):=by rw[List.drop_eq_getElem_cons hlt];simp[List.getD,hlt]
         rw[JN,ej] at Ja;have IY:(j:Int)+1≤H.length:=by omega
         generalize H.getD j 0=x at*
         repeat' first|simp(disch:=try exact yj) only[go_sem, *,results142] | (first|apply dI|apply dD|apply dJ|apply dF|apply dG|apply dH|apply dK|apply dL)<;>intro _ | (first|apply ez|apply eA|apply eB|apply eC)<;>intro _ |refine aB (id:=31) (L:=bF) (by kernel_rfl) (by kernel_rfl) ?_
         refine yB (bA (h3:=h') (n3:=n') r2 qJ r1 rfl rfl qJ qJ qJ qJ qJ qJ) ?_;rintro v h5 n5 rd5 wr5 ⟨rfl,w5,b5,g5,f5⟩;simp only[List.set_cons_succ,List.set_cons_zero] at b5
         repeat' first|simp(disch:=try exact yj) only[go_sem, *,results142] | (first|apply dI|apply dD|apply dJ|apply dF|apply dG|apply dH|apply dK|apply dL)<;>intro _ | (first|apply ez|apply eA|apply eB|apply eC)<;>intro _ |refine aB (id:=31) (L:=bF) (by kernel_rfl) (by kernel_rfl) ?_
         refine ih (H.length-(j+1)) _ _ _ qJ ⟨j+1,w5,W++iD 9 (j+1) (5+x).toNat (5+x).toNat,by omega,by omega,?_,?_,?_⟩
         ·rw[←Ja,List.append_assoc];rfl
         ·simp only[List.length_append,aH];omega
         clear ih;simp(disch:=try exact yj) only[go_sem, *]
         first|exact⟨by simp,g5⟩ |simp
       ·have IY: ¬ (j:Int)+1≤H.length:=by omega
        clear ih;rw[List.drop_eq_nil_of_le qJ,ej,List.append_nil] at Ja;obtain⟨WY,RW,rfl⟩:=r2.len
        repeat' first|simp(disch:=try exact yj) only[go_sem, *,results142] | (first|apply dI|apply dD|apply dJ|apply dF|apply dG|apply dH|apply dK|apply dL)<;>intro _ | (first|apply ez|apply eA|apply eB|apply eC)<;>intro _ |refine aB (id:=31) (L:=bF) (by kernel_rfl) (by kernel_rfl) ?_
        have hlW:W8.length=sl.toNat+(4*bu).toNat+1+(3*lo).toNat+lo.toNat+6+H.length+(aC kd dn xs*7).toNat:=by
         rw[←Ek];simp only[List.length_append,aH,List.length_nil];omega
        have hte:=sU H 1 (cL sl 3 bu lo H+aC kd dn xs*7) (fun i hi=>(Pq i hi).1);have El:cY sl 3 bu lo (aC kd dn xs) H=W8++ej 1 H:=by
         rw[←Ek];unfold cY;rw[hE];rfl
        refine⟨N+1,.slice ca xs.length cc,.slice ha H.length hc,.slice WY (W8.length+(ej 1 H).length) RW,rfl,fun i B e=>?_,by omega,?_,AF.ZC qJ fun i B h1 h2 e=>?_,bg.Px qJ (bg.Ei q6 fun i B hi e=>?_),(fun b k c e=>by
         injection e with e1 e2 e3
         subst e1;have:=r2.new b _ _ rfl;omega),?_⟩
        ·have:=hW.lt e;rw[az qJ,r3 i qJ qJ,q1 i qJ qJ,hkh i this];exact e
        ·rw[aI];refine congrArg (fun l=>some (aj.cells (PT.ofList .leaf 0 l) false)) ?_;simp only[List.cons.injEq,Value.int.injEq,true_and,and_true];rw[hte];simp only[cL,hE];omega
        ·rw[az qJ,r3 i qJ qJ,q1 i qJ qJ];exact e
        ·have:=q2.lt e;rw[az qJ,r3 i qJ qJ];exact e
        ·subst Ja;have L6:∀ B,iQ 3 (h4.set (N+1) B) (.slice WY (W8++ej 1 H).length RW) (gd (W8++ej 1 H)) (W8++ej 1 H).length:=fun B=>(r2.eD qJ rfl).row;rw[El];simp only[List.length_append] at L6 ⊢;exact L6 _
     ·
      obtain rfl:en=1:=by omega
      have g0:GS h' n' (N+1) h' n' (.slice none 0 0) []:=⟨q2,Nat.le_refl _,.inl ⟨rfl,rfl,rfl⟩,(fun b k c e=>by cases e),fun _ _ _=>rfl⟩;refine cN (bA (h3:=h') (n3:=n') g0 qJ q4 rfl rfl (by simp only[List.length_append,aH,List.length_nil];omega) qJ qJ qJ qJ qJ) ?_;rintro v hq0 nq0 ⟨rfl,wq0,bq0,gq0,fq0⟩;simp only[List.set_cons_succ,List.set_cons_zero] at bq0;have eq0:hq0.get N=_:=(fq0 N qJ qJ).trans mR
      repeat' first|simp(disch:=try exact yj) only[go_sem, *,results142] | (first|apply dI|apply dD|apply dJ|apply dF|apply dG|apply dH|apply dK|apply dL)<;>intro _ | (first|apply ez|apply eA|apply eB|apply eC)<;>intro _ |refine aB (id:=31) (L:=bF) (by kernel_rfl) (by kernel_rfl) ?_
      refine cN (bA (h3:=h') (n3:=n') (gq0.eD qJ rfl) qJ aI rfl rfl (by simp only[List.length_append,aH,List.length_nil];omega) qJ qJ qJ qJ qJ) ?_;rintro v hq1 nq1 ⟨rfl,wq1,bq1,gq1,fq1⟩;simp only[List.set_cons_succ,List.set_cons_zero] at bq1;have eq1:hq1.get N=_:=(fq1 N qJ qJ).trans mR
      repeat' first|simp(disch:=try exact yj) only[go_sem, *,results142] | (first|apply dI|apply dD|apply dJ|apply dF|apply dG|apply dH|apply dK|apply dL)<;>intro _ | (first|apply ez|apply eA|apply eB|apply eC)<;>intro _ |refine aB (id:=31) (L:=bF) (by kernel_rfl) (by kernel_rfl) ?_
      refine cN (bA (h3:=h') (n3:=n') (gq1.eD qJ rfl) qJ aI rfl rfl (by simp only[List.length_append,aH,List.length_nil];omega) qJ qJ qJ qJ qJ) ?_;rintro v Py nq2 ⟨rfl,wq2,bq2,gq2,fq2⟩;simp only[List.set_cons_succ,List.set_cons_zero] at bq2;have eq2:Py.get N=_:=(fq2 N qJ qJ).trans mR
      repeat' first|simp(disch:=try exact yj) only[go_sem, *,results142] | (first|apply dI|apply dD|apply dJ|apply dF|apply dG|apply dH|apply dK|apply dL)<;>intro _ | (first|apply ez|apply eA|apply eB|apply eC)<;>intro _ |refine aB (id:=31) (L:=bF) (by kernel_rfl) (by kernel_rfl) ?_
      refine cN (bA (h3:=h') (n3:=n') (gq2.eD qJ rfl) qJ aI rfl rfl (by simp only[List.length_append,aH,List.length_nil];omega) qJ qJ qJ qJ qJ) ?_;rintro v hq3 nq3 ⟨rfl,wq3,bq3,gq3,fq3⟩;simp only[List.set_cons_succ,List.set_cons_zero] at bq3;have eq3:hq3.get N=_:=(fq3 N qJ qJ).trans mR
      repeat' first|simp(disch:=try exact yj) only[go_sem, *,results142] | (first|apply dI|apply dD|apply dJ|apply dF|apply dG|apply dH|apply dK|apply dL)<;>intro _ | (first|apply ez|apply eA|apply eB|apply eC)<;>intro _ |refine aB (id:=31) (L:=bF) (by kernel_rfl) (by kernel_rfl) ?_
      refine cN (bA (h3:=h') (n3:=n') (gq3.eD qJ rfl) qJ aI rfl rfl (by simp only[List.length_append,aH,List.length_nil];omega) qJ qJ qJ qJ qJ) ?_;rintro v hq4 nq4 ⟨rfl,wq4,bq4,gq4,fq4⟩;simp only[List.set_cons_succ,List.set_cons_zero] at bq4;have eq4:hq4.get N=_:=(fq4 N qJ qJ).trans mR
      repeat' first|simp(disch:=try exact yj) only[go_sem, *,results142] | (first|apply dI|apply dD|apply dJ|apply dF|apply dG|apply dH|apply dK|apply dL)<;>intro _ | (first|apply ez|apply eA|apply eB|apply eC)<;>intro _ |refine aB (id:=31) (L:=bF) (by kernel_rfl) (by kernel_rfl) ?_
      refine cN (bA (h3:=h') (n3:=n') (gq4.eD qJ rfl) qJ aI rfl rfl (by simp only[List.length_append,aH,List.length_nil];omega) qJ qJ qJ qJ qJ) ?_;rintro v hq5 nq5 ⟨rfl,wq5,bq5,gq5,fq5⟩;simp only[List.set_cons_succ,List.set_cons_zero] at bq5;have eq5:hq5.get N=_:=(fq5 N qJ qJ).trans mR
      repeat' first|simp(disch:=try exact yj) only[go_sem, *,results142] | (first|apply dI|apply dD|apply dJ|apply dF|apply dG|apply dH|apply dK|apply dL)<;>intro _ | (first|apply ez|apply eA|apply eB|apply eC)<;>intro _ |refine aB (id:=31) (L:=bF) (by kernel_rfl) (by kernel_rfl) ?_
      refine cN (bA (h3:=h') (n3:=n') (gq5.eD qJ rfl) qJ aI rfl rfl (by simp only[List.length_append,aH,List.length_nil];omega) qJ qJ qJ qJ qJ) ?_;rintro v hq6 nq6 ⟨rfl,wq6,bq6,gq6,fq6⟩;simp only[List.set_cons_succ,List.set_cons_zero] at bq6;have eq6:hq6.get N=_:=(fq6 N qJ qJ).trans mR
      repeat' first|simp(disch:=try exact yj) only[go_sem, *,results142] | (first|apply dI|apply dD|apply dJ|apply dF|apply dG|apply dH|apply dK|apply dL)<;>intro _ | (first|apply ez|apply eA|apply eB|apply eC)<;>intro _ |refine aB (id:=31) (L:=bF) (by kernel_rfl) (by kernel_rfl) ?_
      refine cN (bA (h3:=h') (n3:=n') (gq6.eD qJ rfl) qJ aI rfl rfl (by simp only[List.length_append,aH,List.length_nil];omega) qJ qJ qJ qJ qJ) ?_;rintro v hq7 nq7 ⟨rfl,wq7,WW,I_,WX⟩;simp only[List.set_cons_succ,List.set_cons_zero] at WW;have eq7:hq7.get N=_:=(WX N qJ qJ).trans mR;obtain⟨W8,Ek⟩:∃ W8,(((((((([]++iD 1 0 (1:Int).toNat (sl:Int).toNat)++iD 2 0 (sl:Int).toNat (sl:Int).toNat)++iD 3 0 (1:Int).toNat (1:Int).toNat)++iD 4 0 (3:Int).toNat (3*lo:Int).toNat)++iD 5 0 (1:Int).toNat (lo:Int).toNat)++iD 6 0 (1:Int).toNat (6:Int).toNat)++iD 7 1 (1:Int).toNat (H.length:Int).toNat)++iD 8 0 (7:Int).toNat (aC kd dn xs*7:Int).toNat)=W8:=⟨_,rfl⟩;rw[Ek] at I_;have afh:W8.length≤4000:=by rw[←Ek];simp only[List.length_append,aH,List.length_nil];omega
      obtain⟨wa,wc,rfl⟩:=I_.len
      repeat' first|simp(disch:=try exact yj) only[go_sem, *,results142] | (first|apply dI|apply dD|apply dJ|apply dF|apply dG|apply dH|apply dK|apply dL)<;>intro _ | (first|apply ez|apply eA|apply eB|apply eC)<;>intro _ |refine aB (id:=31) (L:=bF) (by kernel_rfl) (by kernel_rfl) ?_
      have hE:bH 1 sl bu=sl:=by unfold bH;rw[if_pos qJ]
      refine a_ (fun t m h4 n4=>∃ (j:Nat) (wv:Value) (W:List (Int×Int×Int)),j≤H.length∧t=H.length-j∧W++ej (j+1) (H.drop j)=W8++ej 1 H∧W.length≤4000+11*j∧
       m.n=186∧m.fF=[]∧m.get 5 = .pointer (some ⟨N+1,0,none⟩)∧m.get 11 = .int .i64 (j+1)∧h4.get (N+1)=some (.cells (PT.ofList .leaf 0 [Value.int .i64 th,.int .i64 sl,.int .u8 1,.int .i64 bu,.int .u8 kd,.int .i64 dn,.slice ca xs.length cc,.int .i64 t0,.int .i64 t1,.int .i64 t2,.int .i64 t3,.int .i64 t4,.int .i64 t5,.int .i64 lo,.int .i64 tr,.int .i64 ba,.int .i64 (0),.int .i64 (0+sl*1),.int .i64 (0+sl*1+1*bH 1 sl bu),.int .i64 (0+sl*1+1*bH 1 sl bu+1),.int .i64 (0+sl*1+1*bH 1 sl bu+1+lo*3),.int .i64 (0+sl*1+1*bH 1 sl bu+1+lo*3+lo*1),.int .i64 (0+sl*1+1*bH 1 sl bu+1+lo*3+lo*1+6),.int .i64 (cL sl 1 bu lo H),.int .i64 (cL sl 1 bu lo H+aC kd dn xs*7),.int .i64 0,.slice ha H.length hc,wv]) false)∧GS h' n' (N+1) h4 n4 wv W) H.length ?_ ?_
      ·refine⟨0,.slice wa W8.length wc,W8,by omega,by omega,rfl,by omega,?_⟩;simp(disch:=try exact yj) only[go_sem, *];have hlW:W8.length=sl.toNat+(sl).toNat+1+(3*lo).toNat+lo.toNat+6+H.length+(aC kd dn xs*7).toNat:=by
        rw[←Ek];simp only[List.length_append,aH,List.length_nil];omega
       refine⟨?_,(I_.eD qJ rfl).eD qJ rfl⟩;refine congrArg (fun l=>aj.cells (PT.ofList .leaf 0 l) false) ?_;simp only[List.cons.injEq,Value.int.injEq,true_and,and_true,aH,hE,cL]
       repeat' first | (apply And.intro)|rfl|omega
      ·clear m1 m2 m3 m4 m5 q4 I_ WW eq7 WX;rintro t m h4 n4 ih ⟨j,wv,W,hj,rfl,Ja,rQ,m1,m2,m3,m4,r1,r2⟩;have r3:=r2.same;by_cases hlt:j<H.length
       ·rcases q6 with ⟨_,rfl⟩ | ⟨b,e,zn,mT⟩
        ·simp at hlt
        ·cases e;have VQ:=q2.lt mT;have hb4:=(r3 b qJ qJ).trans mT;obtain⟨hx1,hx2⟩:=Pq j hlt;have u_:(H.map (Value.int .i64))[((j:Int)+1-1).toNat]? = some (.int .i64 (H.getD j 0)):=by
          rw[show ((j:Int)+1-1).toNat=j by omega];simp[List.getElem?_map,hlt,List.getD]
         have JN:H.drop j=H.getD j 0::H.drop (j+1):=by rw[List.drop_eq_getElem_cons hlt];simp[List.getD,hlt]
         rw[JN,ej] at Ja;have IY:(j:Int)+1≤H.length:=by omega
         generalize H.getD j 0=x at*
         repeat' first|simp(disch:=try exact yj) only[go_sem, *,results142] | (first|apply dI|apply dD|apply dJ|apply dF|apply dG|apply dH|apply dK|apply dL)<;>intro _ | (first|apply ez|apply eA|apply eB|apply eC)<;>intro _ |refine aB (id:=31) (L:=bF) (by kernel_rfl) (by kernel_rfl) ?_
         refine yB (bA (h3:=h') (n3:=n') r2 qJ r1 rfl rfl qJ qJ qJ qJ qJ qJ) ?_;rintro v h5 n5 rd5 wr5 ⟨rfl,w5,b5,g5,f5⟩;simp only[List.set_cons_succ,List.set_cons_zero] at b5
         repeat' first|simp(disch:=try exact yj) only[go_sem, *,results142] | (first|apply dI|apply dD|apply dJ|apply dF|apply dG|apply dH|apply dK|apply dL)<;>intro _ | (first|apply ez|apply eA|apply eB|apply eC)<;>intro _ |refine aB (id:=31) (L:=bF) (by kernel_rfl) (by kernel_rfl) ?_
         refine ih (H.length-(j+1)) _ _ _ qJ ⟨j+1,w5,W++iD 9 (j+1) (5+x).toNat (5+x).toNat,by omega,by omega,?_,?_,?_⟩
         ·rw[←Ja,List.append_assoc];rfl
         ·simp only[List.length_append,aH];omega
         clear ih;simp(disch:=try exact yj) only[go_sem, *]
         first|exact⟨by simp,g5⟩ |simp
       ·have IY: ¬ (j:Int)+1≤H.length:=by omega
        clear ih;rw[List.drop_eq_nil_of_le qJ,ej,List.append_nil] at Ja;obtain⟨WY,RW,rfl⟩:=r2.len
        repeat' first|simp(disch:=try exact yj) only[go_sem, *,results142] | (first|apply dI|apply dD|apply dJ|apply dF|apply dG|apply dH|apply dK|apply dL)<;>intro _ | (first|apply ez|apply eA|apply eB|apply eC)<;>intro _ |refine aB (id:=31) (L:=bF) (by kernel_rfl) (by kernel_rfl) ?_
        have hlW:W8.length=sl.toNat+(sl).toNat+1+(3*lo).toNat+lo.toNat+6+H.length+(aC kd dn xs*7).toNat:=by
         rw[←Ek];simp only[List.length_append,aH,List.length_nil];omega
        have hte:=sU H 1 (cL sl 1 bu lo H+aC kd dn xs*7) (fun i hi=>(Pq i hi).1);have El:cY sl 1 bu lo (aC kd dn xs) H=W8++ej 1 H:=by
         rw[←Ek];unfold cY;rw[hE];rfl
        refine⟨N+1,.slice ca xs.length cc,.slice ha H.length hc,.slice WY (W8.length+(ej 1 H).length) RW,rfl,fun i B e=>?_,by omega,?_,AF.ZC qJ fun i B h1 h2 e=>?_,bg.Px qJ (bg.Ei q6 fun i B hi e=>?_),(fun b k c e=>by
         injection e with e1 e2 e3
         subst e1;have:=r2.new b _ _ rfl;omega),?_⟩
        ·have:=hW.lt e;rw[az qJ,r3 i qJ qJ,q1 i qJ qJ,hkh i this];exact e
        ·rw[aI];refine congrArg (fun l=>some (aj.cells (PT.ofList .leaf 0 l) false)) ?_;simp only[List.cons.injEq,Value.int.injEq,true_and,and_true];rw[hte];simp only[cL,hE];omega
        ·rw[az qJ,r3 i qJ qJ,q1 i qJ qJ];exact e
        ·have:=q2.lt e;rw[az qJ,r3 i qJ qJ];exact e
        ·subst Ja;have L6:∀ B,iQ 3 (h4.set (N+1) B) (.slice WY (W8++ej 1 H).length RW) (gd (W8++ej 1 H)) (W8++ej 1 H).length:=fun B=>(r2.eD qJ rfl).row;rw[El];simp only[List.length_append] at L6 ⊢;exact L6 _
end Go.Proofs.YtofmbmclopgldaaGreat
