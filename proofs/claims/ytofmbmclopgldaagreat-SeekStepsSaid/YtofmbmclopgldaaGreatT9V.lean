/-
A part.
-/
import Derived.Test.YtofmbmclopgldaaGreatT9S5
set_option linter.all false
set_option maxRecDepth 100000
set_option maxHeartbeats 8000000
namespace Go.Proofs.YtofmbmclopgldaaGreat
open Go.Am Tryz
def Em:List Value→Option (AP Value)
 | [.int .u64 w,.int .i64 i]=>if w=0∧0≤i∧i≤1024 then some (.pure (.tuple ⟨[.int .u64 i,.int .i64 0]⟩)) else none
 | _=>none
theorem aqE:bG prog 70 Em:=by
 refine ct (aV .nil) bU ?_;intro args m hm;unfold Em at hm;split at hm
 ·rename_i w i;split at hm
  ·rename_i hc;obtain⟨rfl,h0,h1⟩:=hc;simp only[Option.some.injEq] at hm;subst hm;refine⟨fun h v=>v = .tuple ⟨[.int .u64 i,.int .i64 0]⟩,fun h n v s' _ e=>?_,fun h N v hlt hv=>?_⟩
   ·obtain⟨h1,rfl⟩:=run_pure e;exact⟨h1,.tuple _ (by simp;exact⟨.int _ _,.int _ _⟩),rfl⟩
   ·subst hv;have e1: ¬ i<0:=by omega
    have e2: ¬ (1024:Int)<i:=by omega
    refine ay (N:=21) func70 rfl rfl ?_;intro z hP hO hro hN hQ
    repeat' first|simp(disch:=omega) only[go_sem, *,results70] | (first|apply dI|apply dD|apply dJ|apply dF|apply dG|apply dH|apply dK|apply dL)<;>intro _ | (first|apply ez|apply eA|apply eB|apply eC)<;>intro _ |refine aB (by cbv) (by first|rfl |cbv) ?_
    simp
  ·simp at hm
 ·simp at hm
end Go.Proofs.YtofmbmclopgldaaGreat
namespace Go.Proofs.YtofmbmclopgldaaGreat
def fs:List Int→Int→Int→Int
 | [],_,_=>0
 |x::xs,h,b=>if x=h then b else fs xs h (b+1)
theorem qn:∀ (L M:List Int) (h b:Int),fs (L++M) h b=if h∈L then fs L h b else fs M h (b+L.length)
 | [],M,h,b=>by simp[fs]
 |x::L,M,h,b=>by
  rw[List.cons_append,fs,fs,qn L M h (b+1)];by_cases e:x=h
  ·simp[e]
  ·have e': ¬ h=x:=fun q=>e q.symm;simp only[if_neg e,List.mem_cons,e',false_or,List.length_cons];split
   ·rfl
   ·congr 1;omega
theorem wA:∀ (L:List Int) (h b:Int),¬h∈L→fs L h b=0
 | [],_,_,_=>rfl
 |x::L,h,b,e=>by
  simp only[List.mem_cons,not_or] at e;rw[fs,if_neg (fun q=>e.1 q.symm),wA L h (b+1) e.2]
def qK(p5 p6:Nat)(H:List Int)(t k:Nat):Int:=
 if p6+t≤k∧k<p6+H.length then fs (H.drop (k-p6+1)) (H.getD (k-p6) 0) (((k-p6:Nat):Int)+2)
 else if p5≤k∧k<p5+6 then fs (H.drop t) (((k-p5:Nat):Int)+1) ((t:Int)+1) else 0
def jR(p5 p6 sz:Nat)(H:List Int)(t:Nat):List Int:=(List.range sz).map (qK p5 p6 H t)
def yH(p5 p6:Nat)(H:List Int)(i k:Nat):Int:=
 if p6≤k∧k<p6+H.length then (if k-p6+1<i∧H.getD (k-p6+1) 0=H.getD (k-p6) 0 then ((k-p6:Nat):Int)+2 else 0)
 else if p5≤k∧k<p5+6 then fs (H.take i) (((k-p5:Nat):Int)+1) 1 else 0
def om(p5 p6 sz:Nat)(H:List Int)(i:Nat):List Int:=(List.range sz).map (yH p5 p6 H i)
theorem jS(p5 p6 sz:Nat)(H:List Int)(t:Nat):(jR p5 p6 sz H t).length=sz:=by simp[jR]
theorem En(p5 p6 sz:Nat)(H:List Int)(t:Nat):(om p5 p6 sz H t).length=sz:=by simp[om]
theorem jJ{f:Nat→Int}{sz j:Nat}{v:Int}:((List.range sz).map f).set j v=(List.range sz).map fun k=>if k=j then v else f k:=by
 apply List.ext_getElem?;intro k;rw[List.getElem?_set,List.getElem?_map,List.getElem?_map,List.length_map,List.length_range];by_cases hk:j=k
 ·subst hk;by_cases hj:j<sz
  ·simp[hj]
  ·simp[hj]
 ·have hk': ¬ k=j:=fun e=>hk e.symm;simp only[if_neg hk];by_cases hj:k<sz
  ·simp[hj,hk']
  ·simp[hj]
theorem yI{f:Nat→Int}{sz j:Nat}(hj:j<sz):((List.range sz).map f).getD j 0=f j:=by
 simp[List.getD,hj]
theorem Le(p5 p6 sz:Nat)(H:List Int):jR p5 p6 sz H H.length=List.replicate sz 0:=by
 apply List.ext_getElem?;intro k;simp only[jR,List.getElem?_map,List.getElem?_replicate];by_cases hk:k<sz
 ·simp only[List.getElem?_range hk,hk,if_true,Option.map_some,qK,List.drop_length,fs];rw[if_neg qJ];simp
 ·simp[hk]
theorem Lf(p5 p6 sz:Nat)(H:List Int):om p5 p6 sz H 0=List.replicate sz 0:=by
 apply List.ext_getElem?;intro k;simp only[om,List.getElem?_map,List.getElem?_replicate];by_cases hk:k<sz
 ·simp only[List.getElem?_range hk,hk,if_true,Option.map_some,yH,List.take_zero,fs];simp
 ·simp[hk]
theorem drop_one{H:List Int}{t:Nat}(ht:t<H.length):H.drop t=H.getD t 0::H.drop (t+1):=by
 rw[List.drop_eq_getElem_cons ht];simp[List.getD,ht]
theorem Lg{p5 p6 sz:Nat}{H:List Int}{t h:Nat}(h6:p5+6=p6)(hs:p6+H.length≤sz)(ht:t<H.length)(hh:H.getD t 0=(h:Int))(h1:1≤h)(h2:h≤6):
  jR p5 p6 sz H t=((jR p5 p6 sz H (t+1)).set (p6+t) ((jR p5 p6 sz H (t+1)).getD (p5+h-1) 0)).set (p5+h-1) ((t:Int)+1):=by
 unfold jR;rw[yI qJ,jJ,jJ];apply List.map_congr_left;intro k hk;rw[List.mem_range] at hk;by_cases e1:k=p5+h-1
 ·subst e1;simp only[if_true];unfold qK;rw[if_neg qJ,if_pos qJ,drop_one ht,fs,if_pos (by rw[hh];omega)]
 ·rw[if_neg e1];by_cases e2:k=p6+t
  ·subst e2;rw[if_pos rfl];unfold qK;rw[if_pos qJ,if_neg qJ,if_pos qJ,show p6+t-p6=t by omega,hh]
   congr 1<;>omega
  ·rw[if_neg e2];unfold qK;by_cases e3:p6+t≤k∧k<p6+H.length
   ·rw[if_pos e3,if_pos qJ]
   ·have e4: ¬ (p6+(t+1)≤k∧k<p6+H.length):=by omega
    rw[if_neg e3,if_neg e4];by_cases e5:p5≤k∧k<p5+6
    ·rw[if_pos e5,if_pos e5,drop_one ht,fs,if_neg (by rw[hh];omega)]
     congr 1
    ·rw[if_neg e5,if_neg e5]
def Uz(H:List Int):Prop:=H.Pairwise (·≤·)
theorem sV{H:List Int}(hs:Uz H){i j:Nat}(hij:i<j)(hj:j<H.length):H.getD i 0≤H.getD j 0:=by
 have:=List.pairwise_iff_getElem.1 hs i j qJ hj hij
 simpa [List.getD,hj,show i<H.length by omega] using this
theorem Ch{H:List Int}(hs:Uz H){i:Nat}(hi:i<H.length)(h:i=0∨H.getD (i-1) 0≠H.getD i 0): ¬ H.getD i 0∈H.take i:=by
 intro hm;obtain⟨j,hj,e⟩:=List.mem_take_iff_getElem.1 hm;have hj1:j<i:=by omega
 have e':H.getD j 0=H.getD i 0:=by simpa [List.getD,show j<H.length by omega] using e
 rcases h with h |h
 ·omega
 ·rcases Nat.lt_or_ge j (i-1) with hlt |hge
  ·have a1:=sV hs hlt qJ;have a2:=sV hs (show i-1<i by omega) hi;omega
  ·have:j=i-1:=by omega
   subst this;exact h e'
theorem Eo{H:List Int}{i:Nat}(hi:i<H.length)(h0:0<i)(h:H.getD (i-1) 0=H.getD i 0):H.getD i 0∈H.take i:=by
 rw[←h];refine List.mem_take_iff_getElem.2 ⟨i-1,by omega,?_⟩;simp[List.getD,show i-1<H.length by omega]
theorem Ci{H:List Int}(hs:Uz H){i:Nat}(hi:i+1<H.length)(h:H.getD (i+1) 0≠H.getD i 0): ¬ H.getD i 0∈H.drop (i+1):=by
 intro hm;obtain⟨j,hj,e⟩:=List.mem_drop_iff_getElem.1 hm;have hj2:i+1+j<H.length:=by omega
 have e':H.getD (i+1+j) 0=H.getD i 0:=by
  rw[←e];simp[List.getD,hj2]
 have a2:=sV hs (show i<i+1 by omega) hi
 rcases Nat.eq_zero_or_pos j with rfl |hp
 ·exact h e'
 ·have a1:=sV hs (show i+1<i+1+j by omega) qJ;omega
theorem take_one{H:List Int}{t:Nat}(ht:t<H.length):H.take (t+1)=H.take t++[H.getD t 0]:=by
 rw[List.take_add_one];simp[List.getD,ht]
theorem Li{p5 p6 sz:Nat}{H:List Int}{i:Nat}(h6:p5+6=p6)(hi:i<H.length)(h0:0<i)(h:H.getD (i-1) 0=H.getD i 0):
  om p5 p6 sz H (i+1)=(om p5 p6 sz H i).set (p6+i-1) ((i:Int)+1):=by
 unfold om;rw[jJ];apply List.map_congr_left;intro k hk;by_cases e1:k=p6+i-1
 ·subst e1;rw[if_pos rfl];unfold yH;have e:p6+i-1-p6=i-1:=by omega
  rw[if_pos qJ,e,show i-1+1=i by omega,if_pos ⟨by omega,h.symm⟩];omega
 ·rw[if_neg e1];unfold yH;by_cases e3:p6≤k∧k<p6+H.length
  ·rw[if_pos e3,if_pos e3];have:(k-p6+1<i+1)=(k-p6+1<i):=by apply propext;omega
   simp only[this]
  ·rw[if_neg e3,if_neg e3];by_cases e5:p5≤k∧k<p5+6
   ·rw[if_pos e5,if_pos e5,take_one hi,qn];split
    ·rfl
    ·rename_i hn;have: ¬ H.getD i 0=(((k-p5:Nat):Int)+1):=fun e=>hn (by rw[←e];exact Eo hi h0 h);rw[fs,if_neg this,wA _ _ _ hn];rfl
   ·rw[if_neg e5,if_neg e5]
theorem Ep{p5 p6 sz:Nat}{H:List Int}{i h:Nat}(h6:p5+6=p6)(hs:Uz H)(hi:i<H.length)(hn:i=0∨H.getD (i-1) 0≠H.getD i 0)(hh:H.getD i 0=(h:Int))(h1:1≤h)(h2:h≤6):
  om p5 p6 sz H (i+1)=(om p5 p6 sz H i).set (p5+h-1) ((i:Int)+1):=by
 have hnm:=Ch hs hi hn;unfold om;rw[jJ];apply List.map_congr_left;intro k hk;by_cases e1:k=p5+h-1
 ·subst e1;rw[if_pos rfl];unfold yH;have e:((p5+h-1-p5:Nat):Int)+1=H.getD i 0:=by rw[hh];omega
  rw[if_neg qJ,if_pos qJ,e,take_one hi,qn,if_neg hnm,fs,if_pos rfl,List.length_take];omega
 ·rw[if_neg e1];unfold yH;by_cases e3:p6≤k∧k<p6+H.length
  ·rw[if_pos e3,if_pos e3];by_cases e4:k-p6+1=i
   ·have e5: ¬ H.getD (k-p6+1) 0=H.getD (k-p6) 0:=by
     rw[e4,show k-p6=i-1 by omega]
     rcases hn with hn |hn
     ·omega
     ·exact fun q=>hn q.symm
    rw[if_neg (fun q=>e5 q.2),if_neg (fun q=>e5 q.2)]
   ·have:(k-p6+1<i+1)=(k-p6+1<i):=by apply propext;omega
    simp only[this]
  ·rw[if_neg e3,if_neg e3];by_cases e5:p5≤k∧k<p5+6
   ·rw[if_pos e5,if_pos e5,take_one hi,qn];split
    ·rfl
    ·rename_i hn2;have: ¬ H.getD i 0=(((k-p5:Nat):Int)+1):=by rw[hh];omega
     rw[fs,if_neg this,wA _ _ _ hn2];rfl
   ·rw[if_neg e5,if_neg e5]
theorem Pz{p5 p6 sz:Nat}{H:List Int}(hs:Uz H):om p5 p6 sz H H.length=jR p5 p6 sz H 0:=by
 unfold om jR;apply List.map_congr_left;intro k hk;unfold yH qK;rw[List.take_length,List.drop_zero];by_cases e3:p6≤k∧k<p6+H.length
 ·have e3':p6+0≤k∧k<p6+H.length:=by omega
  rw[if_pos e3,if_pos e3'];by_cases e4:k-p6+1<H.length
  ·by_cases e5:H.getD (k-p6+1) 0=H.getD (k-p6) 0
   ·rw[if_pos ⟨e4,e5⟩,drop_one e4,fs,if_pos e5]
   ·have e6: ¬ (k-p6+1<H.length∧H.getD (k-p6+1) 0=H.getD (k-p6) 0):=fun q=>e5 q.2;rw[if_neg e6,wA _ _ _ (Ci hs e4 e5)]
  ·have e6: ¬ (k-p6+1<H.length∧H.getD (k-p6+1) 0=H.getD (k-p6) 0):=fun q=>e4 q.1;rw[if_neg e6,List.drop_eq_nil_of_le qJ];rfl
 ·have e3': ¬ (p6+0≤k∧k<p6+H.length):=by omega
  rw[if_neg e3,if_neg e3'];rfl
end Go.Proofs.YtofmbmclopgldaaGreat
namespace Go.Proofs.YtofmbmclopgldaaGreat
open Go.Am Tryz
theorem Er(n:Nat):rep [Value.int .u64 0] n=(List.replicate n (0:Int)).map (.int .u64):=by
 induction n with
 |zero=>rfl
 |succ n ih=>simp_all [rep,List.replicate_succ]
theorem ZE{O:Over}(v0 v1 v2 v3 v4 v5 v6 v7 v8 v9 v10 v11 UA WZ W_ Xa:Value)(q0 q1 q2 q3 q4 q7 q8 q9:Int)(p5 p6 sz:Nat)(a wa:Option Addr)(cap wc:Nat)(H:List Int)(jX:Nat)(ro:Bool)(h:PT aj)(N:Nat)(hW:bQ h N)
  (hb:h.get jX=some (.cells (PT.ofList .leaf 0 [v0,v1,v2,v3,v4,v5,v6,v7,v8,v9,v10,v11,UA,WZ,W_,Xa,.int .i64 q0,.int .i64 q1,.int .i64 q2,.int .i64 q3,.int .i64 q4,.int .i64 (p5:Int),.int .i64 (p6:Int),.int .i64 q7,.int .i64 q8,.int .i64 q9,.slice a H.length cap,.slice wa sz wc]) ro)) (hH:aN .i64 h (.slice a H.length cap) H)
  (hbd:∀ i,i<H.length→1≤H.getD i 0∧H.getD i 0≤6) (h6:p5+6=p6) (hs:p6+H.length≤sz) (hz:sz≤100000):
  cE prog O 144 [.pointer (some ⟨jX,0,none⟩)] h N fun v h' n'=>v = .slice (some ⟨N,0,none⟩) sz sz∧Kept h h'∧n'=N+1∧h'.get N=some (.cells (PT.ofList .leaf 0 ((jR p5 p6 sz H 0).map (.int .u64))) false):=by
 have UB:=hW.lt hb;obtain⟨a',cap',e,hA⟩:=hH.len;injection e with e1 e2 e3
 subst e1 e3;have PA:=Le p5 p6 sz H;have De:=Er sz;refine ay (N:=65) func144 rfl rfl fun z hP hO hro hN hQ=>?_
 repeat' first|simp(disch:=omega) only[go_sem, *,results144] | (first|apply dI|apply dD|apply dJ|apply dF|apply dG|apply dH|apply dK|apply dL)<;>intro _ | (first|apply ez|apply eA|apply eB|apply eC)<;>intro _ |refine aB (id:=8) (L:=Hp) (by kernel_rfl) (by kernel_rfl) ?_
 refine a_ (fun t m h' n'=>t≤H.length∧m.n=65∧m.fF=[]∧m.get 0 = .pointer (some ⟨jX,0,none⟩)∧m.get 3 = .slice (some ⟨N,0,none⟩) sz sz∧m.get 4 = .int .i64 t∧n'=N+1∧(∀ j,j<N→h'.get j=h.get j)∧h'.get N=some (.cells (PT.ofList .leaf 0 ((jR p5 p6 sz H t).map (.int .u64))) false)) H.length ?_ ?_
 ·refine⟨Nat.le_refl _,?_⟩;rw[PA];simp(disch:=omega) only[go_sem, *];exact fun j hj=>by simp(disch:=omega) only[az]
 ·rintro t m h' n' ih ⟨ht,m1,m2,m3,m4,m5,rfl,q1,q2⟩;have hb':=(q1 _ UB).trans hb
  rcases Nat.eq_zero_or_pos t with rfl |hpos
  ·repeat' first|simp(disch:=omega) only[go_sem, *,results144] | (first|apply dI|apply dD|apply dJ|apply dF|apply dG|apply dH|apply dK|apply dL)<;>intro _ | (first|apply ez|apply eA|apply eB|apply eC)<;>intro _ |refine aB (id:=8) (L:=Hp) (by kernel_rfl) (by kernel_rfl) ?_
   exact fun i B e=>(q1 i (hW.lt e)).trans e
  ·obtain⟨u,rfl⟩:∃ u,t=u+1:=⟨t-1,by omega⟩;obtain⟨hd,RX⟩:∃ hd:Nat,H.getD u 0=(hd:Int):=⟨(H.getD u 0).toNat,by have:=(hbd u qJ).1;omega⟩;obtain⟨b1,b2⟩:=hbd u qJ;rw[RX] at b1 b2;have hstep:=Lg h6 hs (show u<H.length by omega) RX qJ qJ;obtain⟨bk,off,sp,L,JJ,rfl,H_,hL⟩:=hA u qJ;rw[RX] at hL;have afj:=hW.lt H_;have aFr:=(q1 _ afj).trans H_;have rQ:(jR p5 p6 sz H (u+1)).length=sz:=jS ..;generalize jR p5 p6 sz H (u+1)=W at*;have hx:(W.map (Value.int .u64))[p5+hd-1]? = some (.int .u64 (W.getD (p5+hd-1) 0)):=by
    rw[List.getElem?_map,List.getElem?_eq_getElem qJ];simp[List.getD,show p5+hd-1<W.length by omega]
   have hWm:(W.map (Value.int .u64)).length=sz:=by rw[List.length_map];exact rQ
   have m5':m.get 4 = .int .i64 ((u:Int)+1):=by rw[m5];simp
   have g1:(1:Int)≤(u:Int)+1:=by omega
   have g2:(u:Int)+1-1=u:=by omega
   have g3:(p6:Int)+((u:Int)+1)-1=((p6+u:Nat):Int):=by omega
   have g4:(p5:Int)+(hd:Int)-1=((p5+hd-1:Nat):Int):=by omega
   have g5:p6+u<sz:=by omega
   have g6:p5+hd-1<sz:=by omega
   generalize p5+hd-1=y5 at*;generalize p6+u=y6 at*;clear m5 hbd hA PA De e2
   repeat' first|simp(disch:=omega) only[go_sem, *,results144,List.length_set] | (first|apply dI|apply dD|apply dJ|apply dF|apply dG|apply dH|apply dK|apply dL)<;>intro _ | (first|apply ez|apply eA|apply eB|apply eC)<;>intro _ |refine aB (id:=8) (L:=Hp) (by kernel_rfl) (by kernel_rfl) ?_
   refine ih u _ _ _ qJ ⟨by omega,?_⟩;rw[hstep,List.map_set,List.map_set];simp(disch:=omega) only[go_sem, *];exact fun j hj=>by simp(disch:=omega) only[az,q1 j hj]
theorem ZF{O:Over}(o53:O 70=Em)(v0 v1 v2 v3 v4 v5 v6 v7 v8 v9 v10 v11 UA WZ W_ Xa gv tv Vv:Value)(q0 q1 q2 q3 q4 q7 q8:Int)(p5 p6 sz:Nat)(a:Option Addr)(cap:Nat)(H:List Int)(jX:Nat)(ro:Bool)(h:PT aj)(N:Nat)(hW:bQ h N)
  (hb:h.get jX=some (.cells (PT.ofList .leaf 0 [v0,v1,v2,v3,v4,v5,v6,v7,v8,v9,v10,v11,UA,WZ,W_,Xa,.int .i64 q0,.int .i64 q1,.int .i64 q2,.int .i64 q3,.int .i64 q4,.int .i64 (p5:Int),.int .i64 (p6:Int),.int .i64 q7,.int .i64 q8,.int .i64 (sz:Int),gv,.slice a H.length cap,tv,Vv]) ro)) (hH:aN .i64 h (.slice a H.length cap) H)
  (hbd:∀ i,i<H.length→1≤H.getD i 0∧H.getD i 0≤6) (uq:Uz H) (h6:p5+6=p6) (hs:p6+H.length≤sz) (hz:sz≤100000) (hn:H.length≤1024):
  cE prog O 22 [.pointer (some ⟨jX,0,none⟩)] h N fun v h' n'=>v = .slice (some ⟨N,0,none⟩) sz sz∧Kept h h'∧n'=N+1∧h'.get N=some (.cells (PT.ofList .leaf 0 ((jR p5 p6 sz H 0).map (.int .u64))) false):=by
 have UB:=hW.lt hb;obtain⟨a',cap',e,hA⟩:=hH.len;injection e with e1 e2 e3
 subst e1 e3;have hzero:=Lf p5 p6 sz H;have De:=Er sz;have hend:=Pz (p5:=p5) (p6:=p6) (sz:=sz) uq;refine ay (N:=69) func22 rfl rfl fun z hP hO hro hN hQ=>?_
 repeat' first|simp(disch:=omega) only[go_sem, *,results22] | (first|apply dI|apply dD|apply dJ|apply dF|apply dG|apply dH|apply dK|apply dL)<;>intro _ | (first|apply ez|apply eA|apply eB|apply eC)<;>intro _ |refine aB (id:=9) (L:=Eg) (by kernel_rfl) (by kernel_rfl) ?_
 refine a_ (fun t m h' n'=>∃ i:Nat,i≤H.length∧t=H.length-i∧m.n=69∧m.fF=[]∧m.get 0 = .pointer (some ⟨jX,0,none⟩)∧m.get 3 = .slice (some ⟨N,0,none⟩) sz sz∧m.get 17 = .slice a H.length cap∧m.get 18 = .int .i64 H.length∧m.get 19 = .int .i64 i∧n'=N+1∧(∀ j,j<N→h'.get j=h.get j)∧h'.get N=some (.cells (PT.ofList .leaf 0 ((om p5 p6 sz H i).map (.int .u64))) false)) H.length ?_ ?_
 ·refine⟨0,by omega,by omega,?_⟩;rw[hzero];simp(disch:=omega) only[go_sem, *];exact fun j hj=>by simp(disch:=omega) only[az]
 ·rintro t m h' n' ih ⟨i,hi,rfl,m1,m2,m3,m4,m5,m6,m7,rfl,q1,q2⟩;have hb':=(q1 _ UB).trans hb
  rcases Nat.lt_or_ge i H.length with hlt |hge
  ·have e7:(i:Int)<H.length:=by omega
   obtain⟨hd,RX⟩:∃ hd:Nat,H.getD i 0=(hd:Int):=⟨(H.getD i 0).toNat,by have:=(hbd i hlt).1;omega⟩;obtain⟨b1,b2⟩:=hbd i hlt;rw[RX] at b1 b2;obtain⟨bk,off,sp,L,JJ,rfl,H_,hL⟩:=hA i hlt;have hL':=hL;rw[RX] at hL';have afj:=hW.lt H_;have rQ:(om p5 p6 sz H i).length=sz:=En ..;have hWm:((om p5 p6 sz H i).map (Value.int .u64)).length=sz:=by rw[List.length_map];exact rQ
   by_cases JL:i=0
   ·subst JL;have hstep:=Ep h6 uq hlt (.inl rfl) RX qJ qJ (sz:=sz);generalize om p5 p6 sz H 0=W at*;have m7':m.get 19 = .int .i64 (0:Int):=m7;have g4:(p5:Int)+(hd:Int)-1=((p5+hd-1:Nat):Int):=by omega
    have g6:p5+hd-1<sz:=by omega
    have e8:(0:Int)<H.length:=by omega
    have hL2:L[off]? = some (.int .i64 (hd:Int)):=by simpa using hL'
    generalize p5+hd-1=y5 at*;clear m7 hbd hA De hzero hend e2 hL hL' e7
    repeat' first|simp(disch:=omega) only[go_sem, *,results22,Em] | (first|apply dI|apply dD|apply dJ|apply dF|apply dG|apply dH|apply dK|apply dL)<;>intro _ | (first|apply ez|apply eA|apply eB|apply eC)<;>intro _ |refine aB (id:=9) (L:=Eg) (by kernel_rfl) (by kernel_rfl) ?_
    refine ih (H.length-1) _ _ _ qJ ⟨1,by omega,rfl,?_⟩;rw[hstep,List.map_set];simp(disch:=omega) only[go_sem, *];exact⟨by simp,fun j hj=>by simp(disch:=omega) only[az,q1 j hj]⟩
   ·obtain⟨u,rfl⟩:∃ u,i=u+1:=⟨i-1,by omega⟩;obtain⟨bk',off',sp',L2,Es,e',UC,hL2⟩:=hA u qJ;cases e';rw[H_] at UC;obtain rfl:=ofList_inj (aj.cells.inj (Option.some.inj UC)).1;have m7':m.get 19 = .int .i64 ((u:Int)+1):=by rw[m7];simp
    have e8:(u:Int)+1<H.length:=by omega
    have e9:(u:Int)+1-1=u:=by omega
    have e10:(0:Int)<(u:Int)+1:=by omega
    have e11:(u:Int)<H.length:=by omega
    have hL3:L[off+((u:Int)+1).toNat]? = some (.int .i64 (hd:Int)):=hL';by_cases hsm:H.getD u 0=(hd:Int)
    ·have hstep:=Li h6 hlt qJ (by rw[RX];exact hsm) (sz:=sz);rw[show p6+(u+1)-1=p6+u by omega] at hstep;rw[hsm] at hL2;have g3:(p6:Int)+((u:Int)+1)-1=((p6+u:Nat):Int):=by omega
     have g5:p6+u<sz:=by omega
     generalize p6+u=y6 at*;generalize om p5 p6 sz H (u+1)=W at*;clear m7 hbd hA De hzero hend e2 hL hL' e7 UC JL
     repeat' first|simp(disch:=omega) only[go_sem, *,results22,Em] | (first|apply dI|apply dD|apply dJ|apply dF|apply dG|apply dH|apply dK|apply dL)<;>intro _ | (first|apply ez|apply eA|apply eB|apply eC)<;>intro _ |refine aB (id:=9) (L:=Eg) (by kernel_rfl) (by kernel_rfl) ?_
     refine ih (H.length-(u+1+1)) _ _ _ qJ ⟨u+1+1,by omega,rfl,?_⟩;rw[hstep,List.map_set];simp(disch:=omega) only[go_sem, *];exact⟨by simp,fun j hj=>by simp(disch:=omega) only[az,q1 j hj],by simp⟩
    ·have hstep:=Ep h6 uq hlt (.inr (by rw[RX];exact hsm)) RX qJ qJ (sz:=sz);have g4:(p5:Int)+(hd:Int)-1=((p5+hd-1:Nat):Int):=by omega
     have g6:p5+hd-1<sz:=by omega
     generalize p5+hd-1=y5 at*;generalize om p5 p6 sz H (u+1)=W at*;clear m7 hbd hA De hzero hend e2 hL hL' e7 UC JL;have aqG:Em [.int .u64 0,.int .i64 ((u:Int)+1+1)]=some (.pure (.tuple ⟨[.int .u64 ((u:Int)+1+1),.int .i64 0]⟩)):=by
      simp only[Em];rw[if_pos ⟨trivial,by omega,by omega⟩]
     repeat' first|simp(disch:=omega) only[go_sem, *,results22] | (first|apply dI|apply dD|apply dJ|apply dF|apply dG|apply dH|apply dK|apply dL)<;>intro _ | (first|apply ez|apply eA|apply eB|apply eC)<;>intro _ |refine aB (id:=9) (L:=Eg) (by kernel_rfl) (by kernel_rfl) ?_
     refine ih (H.length-(u+1+1)) _ _ _ qJ ⟨u+1+1,by omega,rfl,?_⟩;rw[hstep,List.map_set];simp(disch:=omega) only[go_sem, *];exact⟨by simp,fun j hj=>by simp(disch:=omega) only[az,q1 j hj],by simp⟩
  ·have e7: ¬ (i:Int)<H.length:=by omega
   obtain rfl:i=H.length:=by omega
   rw[hend] at q2
   repeat' first|simp(disch:=omega) only[go_sem, *,results22] | (first|apply dI|apply dD|apply dJ|apply dF|apply dG|apply dH|apply dK|apply dL)<;>intro _ | (first|apply ez|apply eA|apply eB|apply eC)<;>intro _ |refine aB (id:=9) (L:=Eg) (by kernel_rfl) (by kernel_rfl) ?_
   exact fun i B e=>(q1 i (hW.lt e)).trans e
theorem Et:∀ (ts:List Int) (k:Int),∀ x∈hts k ts,k≤x
 | [],k,x,h=>by simp[hts] at h
 |t::ts,k,x,h=>by
  simp only[hts,List.mem_append,List.mem_replicate] at h
  rcases h with ⟨_,rfl⟩ |h
  ·omega
  ·have:=Et ts (k+1) x h;omega
theorem Eu:∀ (ts:List Int) (k:Int),Uz (hts k ts)
 | [],k => .nil
 |t::ts,k=>by
  rw[hts];unfold Uz;rw[List.pairwise_append];refine⟨List.pairwise_replicate.2 (.inr qJ),Eu ts (k+1),fun a ha b hb=>?_⟩;rw[List.mem_replicate] at ha;have:=Et ts (k+1) b hb;omega
structure Jb(l:dg):Prop where
 p5:0≤l.P.getD 5 0
 p6:l.P.getD 6 0=l.P.getD 5 0+6
 p9:l.P.getD 6 0+l.H.length≤l.P.getD 9 0
 sz:l.P.getD 9 0≤100000
 len:l.H.length≤1024
 bd:∀ i,i<l.H.length→1≤l.H.getD i 0∧l.H.getD i 0≤6
 yt:Uz l.H
def pK(l:dg):List Int:=jR (l.P.getD 5 0).toNat (l.P.getD 6 0).toNat (l.P.getD 9 0).toNat l.H 0
noncomputable def UD:List Value→Option (AP Value)
 | [.pointer (some p)]=>some <| (zK (.pointer (some p))).bind fun l=>cond (@decide (Jb l) (Classical.propDecidable _)) (.newRow ((pK l).map (.int .u64)) fun g => .pure (.slice (some ⟨g,0,none⟩) (l.P.getD 9 0).toNat (l.P.getD 9 0).toNat)) (.fail "")
 | _=>none
theorem yJ{α β:Type}{p:AP α}{f:α→AP β}{h:PT aj}{n:Nat}{v:β}{s':HS}(hp:Reads p)(e:(p.bind f).run 0 (S0 h n) = .ok v s'):∃ a,p.look h=some a∧(f a).run 0 (S0 h n) = .ok v s':=by
 rw[AP.run_bind] at e;cases hr:p.run 0 (S0 h n) with
 |fail w=>rw[hr] at e;simp[bP] at e
 |ok a s1=>
  rw[hr] at e;obtain⟨rfl,hl⟩:=hp.run hr;exact⟨a,hl,e⟩
theorem ZG{α:Type}{cs:List α}(h:cs.length=30):∃ c0 c1 c2 c3 c4 c5 c6 c7 c8 c9 RV L9 IX Pn Xb Xc c16 c17 c18 c19 c20 c21 c22 c23 c24 c25 c26 c27 c28 c29,cs=[c0,c1,c2,c3,c4,c5,c6,c7,c8,c9,RV,L9,IX,Pn,Xb,Xc,c16,c17,c18,c19,c20,c21,c22,c23,c24,c25,c26,c27,c28,c29]:=by
 match cs,h with
 | [c0,c1,c2,c3,c4,c5,c6,c7,c8,c9,RV,L9,IX,Pn,Xb,Xc,c16,c17,c18,c19,c20,c21,c22,c23,c24,c25,c26,c27,c28,c29],_=>exact⟨c0,c1,c2,c3,c4,c5,c6,c7,c8,c9,RV,L9,IX,Pn,Xb,Xc,c16,c17,c18,c19,c20,c21,c22,c23,c24,c25,c26,c27,c28,c29,rfl⟩
theorem ZH{α:Type}{cs:List α}(h:cs.length=10):∃ c0 c1 c2 c3 c4 c5 c6 c7 c8 c9,cs=[c0,c1,c2,c3,c4,c5,c6,c7,c8,c9]:=by
 match cs,h with
 | [c0,c1,c2,c3,c4,c5,c6,c7,c8,c9],_=>exact⟨c0,c1,c2,c3,c4,c5,c6,c7,c8,c9,rfl⟩
noncomputable abbrev Oto:Over:=gG [(70,Em)]
theorem aqV:bG prog 22 UD:=by
 refine xE (O:=Oto) (aV (.cons aqE .nil)) bU ?_;intro args m hm h n N Old eS v h1 n1 hr hold hid hN;unfold UD at hm;split at hm
 ·rename_i p;simp only[Option.some.injEq] at hm;subst hm;obtain⟨l,hl,hr⟩:=yJ (jD _) hr;replace hr:=ec hr;obtain⟨hc,hr⟩:=hr;have hok:Jb l:=@of_decide_eq_true _ (Classical.propDecidable _) hc;replace hr:=sK hr;obtain⟨hs,rfl⟩:=run_pure hr;have e1:h1=_:=congrArg HS.heap hs;have e2:n1=_:=congrArg HS.next hs;simp only[S0] at e1 e2;subst e1 e2;clear hs hr hc;have hlt:∀ i B,h.get i=some B→i<N∧ ¬(n≤i∧i<n+1):=fun i B e=>hid i (hold.id i B e);have hW:bQ h N:=bQ.of_lt fun i B e=>(hlt i B e).1;obtain⟨lb,ro,hv,tv,hp,hb,qm,Pw,hH,hT,IZ,WS,Ej,Hs,ZA,Ld⟩:=kS hold.rows hl;cases hp;obtain⟨S,H,T,P,V⟩:=l;simp only at hb qm Pw hH hT IZ WS Ej Hs ZA Ld;obtain⟨s0,s1,s2,s3,s4,s5,s6,s7,s8,s9,s10,s11,s12,s13,s14,s15,s16,s17,s18,s19,s20,s21,s22,s23,s24,s25,s26,s27,s28,s29,rfl⟩:=ZG Ej;have hPl:P.length=10:=by have:=congrArg List.length Hs;simp at this;omega
  obtain⟨q0,q1,q2,q3,q4,q5,q6,q7,q8,q9,rfl⟩:=ZH hPl;simp only[List.drop_succ_cons,List.drop_zero,List.take_succ_cons,List.take_zero,List.map_cons,List.map_nil,List.cons.injEq,and_true] at Hs;obtain⟨rfl,rfl,rfl,rfl,rfl,rfl,rfl,rfl,rfl,rfl⟩:=Hs;obtain⟨k5,k6,k9,kz,kn,kb,ka⟩:=hok;simp only[List.getD_cons_succ,List.getD_cons_zero] at k5 k6 k9 kz kn kb ka;obtain⟨p5,rfl⟩:=Int.eq_ofNat_of_zero_le k5;subst k6;obtain⟨sz,rfl⟩:=Int.eq_ofNat_of_zero_le (show 0≤q9 by omega);simp only[List.getElem?_cons_succ,List.getElem?_cons_zero,Option.some.injEq] at qm;subst qm;obtain⟨ha,hcap,rfl,-⟩:=hH.len;have hb':h.get lb=some (.cells (PT.ofList .leaf 0 [s0,s1,s2,s3,s4,s5,s6,s7,s8,s9,s10,s11,s12,s13,s14,s15,.int .i64 q0,.int .i64 q1,.int .i64 q2,.int .i64 q3,.int .i64 q4,.int .i64 (p5:Int),.int .i64 ((p5+6:Nat):Int),.int .i64 q7,.int .i64 q8,.int .i64 (sz:Int),s26,.slice ha H.length hcap,s28,s29]) ro):=hb;have hw:pK ⟨[s0,s1,s2,s3,s4,s5,s6,s7,s8,s9,s10,s11,s12,s13,s14,s15,.int .i64 q0,.int .i64 q1,.int .i64 q2,.int .i64 q3,.int .i64 q4,.int .i64 (p5:Int),.int .i64 ((p5:Int)+6),.int .i64 q7,.int .i64 q8,.int .i64 (sz:Int),s26,.slice ha H.length hcap,s28,s29],H,T,[q0,q1,q2,q3,q4,(p5:Int),(p5:Int)+6,q7,q8,(sz:Int)],V⟩=jR p5 (p5+6) sz H 0:=rfl;simp only[List.getD_cons_succ,List.getD_cons_zero,hw];refine(ZF (O:=Oto) rfl _ _ _ _ _ _ _ _ _ _ _ _ _ _ _ _ _ _ _ _ _ _ _ _ _ _ p5 (p5+6) sz _ _ H lb ro h N hW hb' hH kb ka rfl qJ qJ kn).mono ?_;rintro v2 h2 n2 ⟨rfl,hk,rfl,hr2⟩;have hnew:Ij eS n (n+1) (fun _=>N) n N := .inr ⟨Nat.le_refl _,Nat.lt_succ_self _,rfl⟩;refine⟨fun _=>N,fun i q1 q2=>Nat.le_refl N,fun i j q1 q2 q3 q4 _=>by omega,.slice n 0 _ _ N hnew,fun i B e=>?_⟩;rw[PT.bC] at e;split at e
  ·rename_i hi;subst hi;obtain rfl:=Option.some.inj e;refine .inr ⟨_,?_,.cells _ _ _ (cC.refl _ fun u hu=>?_)⟩
   ·rw[xO qJ];exact hr2
   ·obtain⟨x,_,rfl⟩:=List.mem_map.1 hu;exact .int _ _
  ·exact .inl ⟨e,hk _ _ e⟩
 ·simp at hm
theorem jE:∀ (H:List Int) (b:Int),(∀ j,j<H.length→1≤H.getD j 0∧H.getD j 0≤6)→b≤cS b H∧cS b H≤b+11*(H.length:Int)
 | [],b,_=>by simp[cS]
 |x::r,b,h=>by
  have hx:=h 0 (by simp);simp only[List.getD_cons_zero] at hx;have:=jE r (b+(5+x)) fun j hj=>by have:=h (j+1) (by simpa using hj);simpa using this
  simp only[cS,List.length_cons];omega
theorem UE{h:PT aj}{lb:Nat}{l:dg}(e:(zK (.pointer (some ⟨lb,0,none⟩))).look h=some l):∃ ro,h.get lb=some (.cells (PT.ofList .leaf 0 l.S) ro)∧l.S.length=30:=by
 unfold zK at e;obtain⟨S,ro,hb,e⟩:=cA e;split at e
 ·obtain⟨H,e1,e⟩:=aJ e;obtain⟨T,e2,e⟩:=aJ e;split at e
  ·obtain⟨hc,e⟩:=f_ e;rw[aF] at e;obtain rfl:=Option.some.inj e;simp only[Bool.and_eq_true] at hc;exact⟨ro,hb,Nat.eq_of_beq_eq_true hc.2⟩
  ·simp[AP.look] at e
 ·simp[AP.look] at e
theorem yK:∀ (L:List Int) (h b:Int),0≤b→0≤fs L h b∧fs L h b≤b+L.length
 | [],h,b,hb=>by simp[fs];omega
 |x::xs,h,b,hb=>by
  have:=yK xs h (b+1) qJ;rw[fs];simp only[List.length_cons];split<;>omega
theorem PB{p5 p6 sz:Nat}{H:List Int}(hn:H.length≤1024):∀ x∈jR p5 p6 sz H 0,0≤x∧x<18446744073709551616:=by
 intro x hx;simp only[jR,List.mem_map,List.mem_range] at hx;obtain⟨k,-,rfl⟩:=hx;unfold qK;split
 ·have:=yK (H.drop (k-p6+1)) (H.getD (k-p6) 0) (((k-p6:Nat):Int)+2) qJ;rw[List.length_drop] at this;omega
 ·split
  ·have:=yK (H.drop 0) (((k-p5:Nat):Int)+1) (((0:Nat):Int)+1) qJ;rw[List.length_drop] at this;omega
  ·omega
section
variable {th sl en bu kd dn t0 t1 t2 t3 t4 t5 lo tr ba:Int} {xs:List Int}
theorem Hv.keep{h h':PT aj}{lb gb:Nat}{l:dg}{cv:Value}(H:Hv th sl en bu kd dn t0 t1 t2 t3 t4 t5 lo tr ba xs h lb l gb cv)(k:Kept h h'):Hv th sl en bu kd dn t0 t1 t2 t3 t4 t5 lo tr ba xs h' lb l gb cv:=
 ⟨H.ok,gT k H.look,H.V,H.H,H.P,H.T,H.Cg.keep k,H.ofr.keep k,H.cells⟩
structure qy(l:dg)(V:Int)(sz:Nat):Prop where
 eV:l.V=V
 V1:1≤V
 V2:V≤64
 yL:Jb l
 p9:l.P.getD 9 0=sz
 sz1:12≤sz
 RY:sz≤20000
 p7:12≤l.P.getD 7 0∧l.P.getD 7 0≤2000
 p7':l.P.getD 7 0=l.P.getD 6 0+l.H.length
 p8:l.P.getD 8 0=l.P.getD 7 0+V*7
 T:l.T=tN (l.P.getD 8 0) l.H
 h_:cS (l.P.getD 8 0) l.H=sz
 PL:∃ q0 q1 q2 q3 q4 q5 q6 q7 q8,l.P=[q0,q1,q2,q3,q4,q5,q6,q7,q8,(sz:Int)]
theorem PD{h:PT aj}{lb gb:Nat}{l:dg}{cv:Value}(H:Hv th sl en bu kd dn t0 t1 t2 t3 t4 t5 lo tr ba xs h lb l gb cv):∃ sz,qy l (aC kd dn xs) sz:=by
 have c1:=H.ok;have Xd:=jQ ⟨(cr c1).2.2.2.2.2.1,(cr c1).2.2.2.2.2.2.1⟩;have hV:=ji (cr c1).1;have Ld:=yG c1;obtain⟨-,⟨f2,f2'⟩,⟨f3,f3'⟩,⟨f4,f4'⟩,⟨f5,f5'⟩,-,-,-⟩:=cr c1;have hE:=gJ (en:=en) f3 f3' f4 f4';have hbd:∀ i,i<(hts 1 [t0,t1,t2,t3,t4,t5]).length→1≤(hts 1 [t0,t1,t2,t3,t4,t5]).getD i 0∧(hts 1 [t0,t1,t2,t3,t4,t5]).getD i 0≤6:=fun i hi=>by
  have:=mL [t0,t1,t2,t3,t4,t5] 1 1 6 qJ (by simp) ((hts 1 [t0,t1,t2,t3,t4,t5]).getD i 0) (by simp[List.getD,hi]);exact this
 have uq:=Eu [t0,t1,t2,t3,t4,t5] 1;have LP:=jE (hts 1 [t0,t1,t2,t3,t4,t5]) (cL sl en bu lo (hts 1 [t0,t1,t2,t3,t4,t5])+aC kd dn xs*7) hbd;obtain⟨hlV,hlH,Xe,hlT⟩:=And.intro H.V (And.intro H.H (And.intro H.P H.T));have hP6:cL sl en bu lo (hts 1 [t0,t1,t2,t3,t4,t5])=0+sl*1+1*bH en sl bu+1+lo*3+lo*1+6+((hts 1 [t0,t1,t2,t3,t4,t5]).length:Int)*1:=rfl;obtain⟨sz,hsz⟩:∃ sz:Nat,cS (cL sl en bu lo (hts 1 [t0,t1,t2,t3,t4,t5])+aC kd dn xs*7) (hts 1 [t0,t1,t2,t3,t4,t5])=sz:=⟨(cS (cL sl en bu lo (hts 1 [t0,t1,t2,t3,t4,t5])+aC kd dn xs*7) (hts 1 [t0,t1,t2,t3,t4,t5])).toNat,by omega⟩;refine⟨sz,hlV,by omega,by omega,?_,?_,by omega,by omega,?_,?_,?_,?_,?_,?_⟩
 ·refine⟨?_,?_,?_,?_,?_,?_,?_⟩<;>simp only[Xe,hlH,placesOf,List.getD_cons_succ,List.getD_cons_zero]<;>first|omega|exact hbd|exact uq
 ·simp only[Xe,placesOf,List.getD_cons_succ,List.getD_cons_zero,hsz]
 ·simp only[Xe,placesOf,List.getD_cons_succ,List.getD_cons_zero];exact Ld
 ·simp only[Xe,hlH,placesOf,List.getD_cons_succ,List.getD_cons_zero];omega
 ·simp only[Xe,placesOf,List.getD_cons_succ,List.getD_cons_zero]
 ·simp only[Xe,hlH,hlT,placesOf,List.getD_cons_succ,List.getD_cons_zero]
 ·simp only[Xe,hlH,placesOf,List.getD_cons_succ,List.getD_cons_zero,hsz]
 ·rw[Xe];unfold placesOf;rw[hsz];exact⟨_,_,_,_,_,_,_,_,_,rfl⟩
end
end Go.Proofs.YtofmbmclopgldaaGreat
