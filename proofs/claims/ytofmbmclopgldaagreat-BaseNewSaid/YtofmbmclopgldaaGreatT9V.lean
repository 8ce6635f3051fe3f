/-
  A part of the proof: contracts of inner functions.
-/
import Derived.Test.YtofmbmclopgldaaGreatT9S5
import Derived.Test.YtofmbmclopgldaaGreatT9P8
import Derived.Test.YtofmbmclopgldaaGreatT9P4
import Derived.Test.YtofmbmclopgldaaGreatT9Q1
set_option linter.unusedVariables false
set_option linter.unusedSimpArgs false
namespace Go.Proofs.YtofmbmclopgldaaGreat
open Go.Am
def yZ:List Value→Option (AP Value)
 | [.int .u64 w,.int .i64 i]=>if w=0∧0≤i∧i≤1024 then some (.pure (.tuple ⟨[.int .u64 i,.int .i64 0]⟩)) else none
 | _=>none
set_option maxRecDepth 100000 in
theorem aci:bf Tryz.prog 70 yZ:=by
 refine bK (aN .nil) bA ?_
 intro args m hm
 unfold yZ at hm
 split at hm
 ·rename_i w i
  split at hm
  ·rename_i hc
   obtain⟨rfl,h0,h1⟩:=hc
   simp only[Option.some.injEq] at hm
   subst hm
   refine⟨fun h v=>v = .tuple ⟨[.int .u64 i,.int .i64 0]⟩,fun h n v s' _ e=>?_,fun h N v hlt hv=>?_⟩
   ·obtain⟨h1,rfl⟩:=run_pure e
    exact⟨h1,.tuple _ (by simp;exact⟨.int _ _,.int _ _⟩),rfl⟩
   ·subst hv
    have e1: ¬ i<0:=by omega
    have e2: ¬ (1024:Int)<i:=by omega
    refine ay (N:=21) Tryz.func70 rfl rfl ?_
    intro z hP hO hro hN hQ
    repeat' first |simp(maxSteps:=2000000) (disch:=omega) only[go_sem, *,Tryz.results70] | (first |apply fZ |apply fV |apply f_ |apply fW |apply fX |apply fY |apply ga |apply gd)<;>intro _ | (first |apply iz |apply iA |apply iB |apply iC)<;>intro _ |refine aK (by cbv) (by first |rfl |cbv) ?_
    simp
  ·simp at hm
 ·simp at hm
end Go.Proofs.YtofmbmclopgldaaGreat
set_option linter.unusedVariables false
set_option linter.unusedSimpArgs false
namespace Go.Proofs.YtofmbmclopgldaaGreat
def fs:List Int→Int→Int→Int
 | [],_,_=>0
 |x::xs,h,b=>if x=h then b else fs xs h (b+1)
theorem mZ:∀ (L M:List Int) (h b:Int),fs (L++M) h b=if h∈L then fs L h b else fs M h (b+L.length)
 | [],M,h,b=>by simp[fs]
 |x::L,M,h,b=>by
  rw[List.cons_append,fs,fs,mZ L M h (b+1)]
  by_cases e:x=h
  ·simp[e]
  ·have e': ¬ h=x:=fun q=>e q.symm
   simp only[if_neg e,List.mem_cons,e',false_or,List.length_cons]
   split
   ·rfl
   ·congr 1;omega
theorem rF:∀ (L:List Int) (h b:Int),¬h∈L→fs L h b=0
 | [],_,_,_=>rfl
 |x::L,h,b,e=>by
  simp only[List.mem_cons,not_or] at e
  rw[fs,if_neg (fun q=>e.1 q.symm),rF L h (b+1) e.2]
def vi (p5 p6:Nat) (H:List Int) (t k:Nat):Int:=
 if p6+t≤k∧k<p6+H.length then fs (H.drop (k-p6+1)) (H.getD (k-p6) 0) (((k-p6:Nat):Int)+2)
 else if p5≤k∧k<p5+6 then fs (H.drop t) (((k-p5:Nat):Int)+1) ((t:Int)+1) else 0
def tO (p5 p6 sz:Nat) (H:List Int) (t:Nat):List Int:=(List.range sz).map (vi p5 p6 H t)
def tP (p5 p6:Nat) (H:List Int) (i k:Nat):Int:=
 if p6≤k∧k<p6+H.length then (if k-p6+1<i∧H.getD (k-p6+1) 0=H.getD (k-p6) 0 then ((k-p6:Nat):Int)+2 else 0)
 else if p5≤k∧k<p5+6 then fs (H.take i) (((k-p5:Nat):Int)+1) 1 else 0
def kZ (p5 p6 sz:Nat) (H:List Int) (i:Nat):List Int:=(List.range sz).map (tP p5 p6 H i)
theorem me (p5 p6 sz:Nat) (H:List Int) (t:Nat):(tO p5 p6 sz H t).length=sz:=by simp[tO]
theorem y9 (p5 p6 sz:Nat) (H:List Int) (t:Nat):(kZ p5 p6 sz H t).length=sz:=by simp[kZ]
theorem nG {f:Nat→Int} {sz j:Nat} {v:Int}:((List.range sz).map f).set j v=(List.range sz).map fun k=>if k=j then v else f k:=by
 apply List.ext_getElem?
 intro k
 rw[List.getElem?_set,List.getElem?_map,List.getElem?_map,List.length_map,List.length_range]
 by_cases hk:j=k
 ·subst hk
  by_cases hj:j<sz
  ·simp[hj]
  ·simp[hj]
 ·have hk': ¬ k=j:=fun e=>hk e.symm
  simp only[if_neg hk]
  by_cases hj:k<sz
  ·simp[hj,hk']
  ·simp[hj]
theorem D3 (p5 p6 sz:Nat) (H:List Int):kZ p5 p6 sz H 0=List.replicate sz 0:=by
 apply List.ext_getElem?
 intro k
 simp only[kZ,List.getElem?_map,List.getElem?_replicate]
 by_cases hk:k<sz
 ·simp only[List.getElem?_range hk,hk,if_true,Option.map_some,tP,List.take_zero,fs]
  simp
 ·simp[hk]
theorem drop_one {H:List Int} {t:Nat} (ht:t<H.length):H.drop t=H.getD t 0::H.drop (t+1):=by
 rw[List.drop_eq_getElem_cons ht];simp[List.getD,ht]
def KP (H:List Int):Prop:=H.Pairwise (·≤·)
theorem oT {H:List Int} (hs:KP H) {i j:Nat} (hij:i<j) (hj:j<H.length):H.getD i 0≤H.getD j 0:=by
 have:=List.pairwise_iff_getElem.1 hs i j (by omega) hj hij
 simpa [List.getD,hj,show i<H.length by omega] using this
theorem wU {H:List Int} (hs:KP H) {i:Nat} (hi:i<H.length) (h:i=0∨H.getD (i-1) 0≠H.getD i 0): ¬ H.getD i 0∈H.take i:=by
 intro hm
 obtain⟨j,hj,e⟩:=List.mem_take_iff_getElem.1 hm
 have hj1:j<i:=by omega
 have e':H.getD j 0=H.getD i 0:=by simpa [List.getD,show j<H.length by omega] using e
 rcases h with h |h
 ·omega
 ·rcases Nat.lt_or_ge j (i-1) with hlt |hge
  ·have a1:=oT hs hlt (by omega)
   have a2:=oT hs (show i-1<i by omega) hi
   omega
  ·have:j=i-1:=by omega
   subst this
   exact h e'
theorem y_ {H:List Int} {i:Nat} (hi:i<H.length) (h0:0<i) (h:H.getD (i-1) 0=H.getD i 0):H.getD i 0∈H.take i:=by
 rw[←h]
 refine List.mem_take_iff_getElem.2 ⟨i-1,by omega,?_⟩
 simp[List.getD,show i-1<H.length by omega]
theorem wV {H:List Int} (hs:KP H) {i:Nat} (hi:i+1<H.length) (h:H.getD (i+1) 0≠H.getD i 0): ¬ H.getD i 0∈H.drop (i+1):=by
 intro hm
 obtain⟨j,hj,e⟩:=List.mem_drop_iff_getElem.1 hm
 have hj2:i+1+j<H.length:=by omega
 have e':H.getD (i+1+j) 0=H.getD i 0:=by
  rw[←e];simp[List.getD,hj2]
 have a2:=oT hs (show i<i+1 by omega) hi
 rcases Nat.eq_zero_or_pos j with rfl |hp
 ·exact h e'
 ·have a1:=oT hs (show i+1<i+1+j by omega) (by omega)
  omega
theorem take_one {H:List Int} {t:Nat} (ht:t<H.length):H.take (t+1)=H.take t++[H.getD t 0]:=by
 rw[List.take_add_one];simp[List.getD,ht]
theorem D4 {p5 p6 sz:Nat} {H:List Int} {i:Nat} (h6:p5+6=p6) (hi:i<H.length) (h0:0<i) (h:H.getD (i-1) 0=H.getD i 0):
  kZ p5 p6 sz H (i+1)=(kZ p5 p6 sz H i).set (p6+i-1) ((i:Int)+1):=by
 unfold kZ
 rw[nG]
 apply List.map_congr_left
 intro k hk
 by_cases e1:k=p6+i-1
 ·subst e1
  rw[if_pos rfl]
  unfold tP
  have e:p6+i-1-p6=i-1:=by omega
  rw[if_pos (by omega),e,show i-1+1=i by omega,if_pos ⟨by omega,h.symm⟩]
  omega
 ·rw[if_neg e1]
  unfold tP
  by_cases e3:p6≤k∧k<p6+H.length
  ·rw[if_pos e3,if_pos e3]
   have:(k-p6+1<i+1)=(k-p6+1<i):=by apply propext;omega
   simp only[this]
  ·rw[if_neg e3,if_neg e3]
   by_cases e5:p5≤k∧k<p5+6
   ·rw[if_pos e5,if_pos e5,take_one hi,mZ]
    split
    ·rfl
    ·rename_i hn
     have: ¬ H.getD i 0=(((k-p5:Nat):Int)+1):=fun e=>hn (by rw[←e];exact y_ hi h0 h)
     rw[fs,if_neg this,rF _ _ _ hn];rfl
   ·rw[if_neg e5,if_neg e5]
theorem za {p5 p6 sz:Nat} {H:List Int} {i h:Nat} (h6:p5+6=p6) (hs:KP H) (hi:i<H.length) (hn:i=0∨H.getD (i-1) 0≠H.getD i 0) (hh:H.getD i 0=(h:Int)) (h1:1≤h) (h2:h≤6):
  kZ p5 p6 sz H (i+1)=(kZ p5 p6 sz H i).set (p5+h-1) ((i:Int)+1):=by
 have hnm:=wU hs hi hn
 unfold kZ
 rw[nG]
 apply List.map_congr_left
 intro k hk
 by_cases e1:k=p5+h-1
 ·subst e1
  rw[if_pos rfl]
  unfold tP
  have e:((p5+h-1-p5:Nat):Int)+1=H.getD i 0:=by rw[hh];omega
  rw[if_neg (by omega),if_pos (by omega),e,take_one hi,mZ,if_neg hnm,fs,if_pos rfl,List.length_take]
  omega
 ·rw[if_neg e1]
  unfold tP
  by_cases e3:p6≤k∧k<p6+H.length
  ·rw[if_pos e3,if_pos e3]
   by_cases e4:k-p6+1=i
   ·have e5: ¬ H.getD (k-p6+1) 0=H.getD (k-p6) 0:=by
     rw[e4,show k-p6=i-1 by omega]
     rcases hn with hn |hn
     ·omega
     ·exact fun q=>hn q.symm
    rw[if_neg (fun q=>e5 q.2),if_neg (fun q=>e5 q.2)]
   ·have:(k-p6+1<i+1)=(k-p6+1<i):=by apply propext;omega
    simp only[this]
  ·rw[if_neg e3,if_neg e3]
   by_cases e5:p5≤k∧k<p5+6
   ·rw[if_pos e5,if_pos e5,take_one hi,mZ]
    split
    ·rfl
    ·rename_i hn2
     have: ¬ H.getD i 0=(((k-p5:Nat):Int)+1):=by rw[hh];omega
     rw[fs,if_neg this,rF _ _ _ hn2];rfl
   ·rw[if_neg e5,if_neg e5]
theorem HC {p5 p6 sz:Nat} {H:List Int} (hs:KP H):kZ p5 p6 sz H H.length=tO p5 p6 sz H 0:=by
 unfold kZ tO
 apply List.map_congr_left
 intro k hk
 unfold tP vi
 rw[List.take_length,List.drop_zero]
 by_cases e3:p6≤k∧k<p6+H.length
 ·have e3':p6+0≤k∧k<p6+H.length:=by omega
  rw[if_pos e3,if_pos e3']
  by_cases e4:k-p6+1<H.length
  ·by_cases e5:H.getD (k-p6+1) 0=H.getD (k-p6) 0
   ·rw[if_pos ⟨e4,e5⟩,drop_one e4,fs,if_pos e5]
   ·have e6: ¬ (k-p6+1<H.length∧H.getD (k-p6+1) 0=H.getD (k-p6) 0):=fun q=>e5 q.2
    rw[if_neg e6,rF _ _ _ (wV hs e4 e5)]
  ·have e6: ¬ (k-p6+1<H.length∧H.getD (k-p6+1) 0=H.getD (k-p6) 0):=fun q=>e4 q.1
   rw[if_neg e6,List.drop_eq_nil_of_le (by omega)];rfl
 ·have e3': ¬ (p6+0≤k∧k<p6+H.length):=by omega
  rw[if_neg e3,if_neg e3']
  rfl
end Go.Proofs.YtofmbmclopgldaaGreat
set_option linter.unusedVariables false
set_option linter.unusedSimpArgs false
namespace Go.Proofs.YtofmbmclopgldaaGreat
open Go.Am
theorem HD (n:Nat):rep [Value.int .u64 0] n=(List.replicate n (0:Int)).map (.int .u64):=by
 induction n with
 |zero=>rfl
 |succ n ih=>simp_all [rep,List.replicate_succ]
end Go.Proofs.YtofmbmclopgldaaGreat
set_option linter.unusedVariables false
set_option linter.unusedSimpArgs false
namespace Go.Proofs.YtofmbmclopgldaaGreat
open Go.Am
set_option maxRecDepth 100000 in
set_option maxHeartbeats 8000000 in
theorem Pp {O:Over} (o53:O 70=yZ) (v0 v1 v2 v3 v4 v5 v6 v7 v8 v9 v10 v11 v12 v13 v14 v15 gv tv Vv:Value) (q0 q1 q2 q3 q4 q7 q8:Int) (p5 p6 sz:Nat) (a:Option Addr) (cap:Nat) (H:List Int) (lb2:Nat) (ro:Bool) (h:PT ak) (N:Nat) (hW:bL h N)
  (hb:h.get lb2=some (.cells (PT.ofList .leaf 0 [v0,v1,v2,v3,v4,v5,v6,v7,v8,v9,v10,v11,v12,v13,v14,v15,.int .i64 q0,.int .i64 q1,.int .i64 q2,.int .i64 q3,.int .i64 q4,.int .i64 (p5:Int),.int .i64 (p6:Int),.int .i64 q7,.int .i64 q8,.int .i64 (sz:Int),gv,.slice a H.length cap,tv,Vv]) ro)) (hH:aW .i64 h (.slice a H.length cap) H)
  (hbd:∀ i,i<H.length→1≤H.getD i 0∧H.getD i 0≤6) (pV:KP H) (h6:p5+6=p6) (hs:p6+H.length≤sz) (hz:sz≤100000) (hn:H.length≤1024):
  cW Tryz.prog O 22 [.pointer (some ⟨lb2,0,none⟩)] h N fun v h' n'=>v = .slice (some ⟨N,0,none⟩) sz sz∧Kept h h'∧n'=N+1∧h'.get N=some (.cells (PT.ofList .leaf 0 ((tO p5 p6 sz H 0).map (.int .u64))) false):=by
 have acm:=hW.lt hb
 obtain⟨a',cap',e,hA⟩:=hH.len
 injection e with e1 e2 e3
 subst e1 e3
 have hzero:=D3 p5 p6 sz H
 have CH:=HD sz
 have hend:=HC (p5:=p5) (p6:=p6) (sz:=sz) pV
 refine ay (N:=69) Tryz.func22 rfl rfl fun z hP hO hro hN hQ=>?_
 repeat' first |simp(maxSteps:=2000000) (disch:=omega) only[go_sem, *,Tryz.results22] | (first |apply fZ |apply fV |apply f_ |apply fW |apply fX |apply fY |apply ga |apply gd)<;>intro _ | (first |apply iz |apply iA |apply iB |apply iC)<;>intro _ |refine aK (id:=9) (L:=yU) (by kernel_rfl) (by kernel_rfl) ?_
 refine bY (fun t m h' n'=>∃ i:Nat,i≤H.length∧t=H.length-i∧m.n=69∧m.eS=[]∧m.get 0 = .pointer (some ⟨lb2,0,none⟩)∧m.get 3 = .slice (some ⟨N,0,none⟩) sz sz∧m.get 17 = .slice a H.length cap∧m.get 18 = .int .i64 H.length∧m.get 19 = .int .i64 i∧n'=N+1∧(∀ j,j<N→h'.get j=h.get j)∧h'.get N=some (.cells (PT.ofList .leaf 0 ((kZ p5 p6 sz H i).map (.int .u64))) false)) H.length ?_ ?_
 ·refine⟨0,by omega,by omega,?_⟩
  rw[hzero]
  simp(maxSteps:=2000000) (disch:=omega) only[go_sem, *]
  exact fun j hj=>by simp(disch:=omega) only[aE]
 ·rintro t m h' n' ih ⟨i,hi,rfl,m1,m2,m3,m4,m5,m6,m7,rfl,q1,q2⟩
  have hb':=(q1 _ acm).trans hb
  rcases Nat.lt_or_ge i H.length with hlt |hge
  ·have e7:(i:Int)<H.length:=by omega
   obtain⟨hd,RD⟩:∃ hd:Nat,H.getD i 0=(hd:Int):=⟨(H.getD i 0).toNat,by have:=(hbd i hlt).1;omega⟩
   obtain⟨b1,b2⟩:=hbd i hlt
   rw[RD] at b1 b2
   obtain⟨bk,off,sp,L,Ik,rfl,Ip,hL⟩:=hA i hlt
   have hL':=hL
   rw[RD] at hL'
   have amB:=hW.lt Ip
   have vk:(kZ p5 p6 sz H i).length=sz:=y9 ..
   have hWm:((kZ p5 p6 sz H i).map (Value.int .u64)).length=sz:=by rw[List.length_map];exact vk
   by_cases LA:i=0
   ·subst LA
    have hstep:=za h6 pV hlt (.inl rfl) RD (by omega) (by omega) (sz:=sz)
    generalize kZ p5 p6 sz H 0=W at*
    have m7':m.get 19 = .int .i64 (0:Int):=m7
    have g4:(p5:Int)+(hd:Int)-1=((p5+hd-1:Nat):Int):=by omega
    have g6:p5+hd-1<sz:=by omega
    have e8:(0:Int)<H.length:=by omega
    have ZW:L[off]? = some (.int .i64 (hd:Int)):=by simpa using hL'
    generalize p5+hd-1=y5 at*
    clear m7 hbd hA CH hzero hend e2 hL hL' e7
    repeat' first |simp(maxSteps:=2000000) (disch:=omega) only[go_sem, *,Tryz.results22,yZ] | (first |apply fZ |apply fV |apply f_ |apply fW |apply fX |apply fY |apply ga |apply gd)<;>intro _ | (first |apply iz |apply iA |apply iB |apply iC)<;>intro _ |refine aK (id:=9) (L:=yU) (by kernel_rfl) (by kernel_rfl) ?_
    refine ih (H.length-1) _ _ _ (by omega) ⟨1,by omega,rfl,?_⟩
    rw[hstep,List.map_set]
    simp(maxSteps:=2000000) (disch:=omega) only[go_sem, *]
    exact⟨by simp,fun j hj=>by simp(disch:=omega) only[aE,q1 j hj]⟩
   ·obtain⟨u,rfl⟩:∃ u,i=u+1:=⟨i-1,by omega⟩
    obtain⟨bk',off',sp',L2,Cr,e',KQ,ZW⟩:=hA u (by omega)
    cases e'
    rw[Ip] at KQ
    obtain rfl:=ofList_inj (ak.cells.inj (Option.some.inj KQ)).1
    have m7':m.get 19 = .int .i64 ((u:Int)+1):=by rw[m7];simp
    have e8:(u:Int)+1<H.length:=by omega
    have e9:(u:Int)+1-1=u:=by omega
    have e10:(0:Int)<(u:Int)+1:=by omega
    have e11:(u:Int)<H.length:=by omega
    have hL3:L[off+((u:Int)+1).toNat]? = some (.int .i64 (hd:Int)):=hL'
    by_cases hsm:H.getD u 0=(hd:Int)
    ·have hstep:=D4 h6 hlt (by omega) (by rw[RD];exact hsm) (sz:=sz)
     rw[show p6+(u+1)-1=p6+u by omega] at hstep
     rw[hsm] at ZW
     have g3:(p6:Int)+((u:Int)+1)-1=((p6+u:Nat):Int):=by omega
     have g5:p6+u<sz:=by omega
     generalize p6+u=y6 at*
     generalize kZ p5 p6 sz H (u+1)=W at*
     clear m7 hbd hA CH hzero hend e2 hL hL' e7 KQ LA
     repeat' first |simp(maxSteps:=2000000) (disch:=omega) only[go_sem, *,Tryz.results22,yZ] | (first |apply fZ |apply fV |apply f_ |apply fW |apply fX |apply fY |apply ga |apply gd)<;>intro _ | (first |apply iz |apply iA |apply iB |apply iC)<;>intro _ |refine aK (id:=9) (L:=yU) (by kernel_rfl) (by kernel_rfl) ?_
     refine ih (H.length-(u+1+1)) _ _ _ (by omega) ⟨u+1+1,by omega,rfl,?_⟩
     rw[hstep,List.map_set]
     simp(maxSteps:=2000000) (disch:=omega) only[go_sem, *]
     exact⟨by simp,fun j hj=>by simp(disch:=omega) only[aE,q1 j hj],by simp⟩
    ·have hstep:=za h6 pV hlt (.inr (by rw[RD];exact hsm)) RD (by omega) (by omega) (sz:=sz)
     have g4:(p5:Int)+(hd:Int)-1=((p5+hd-1:Nat):Int):=by omega
     have g6:p5+hd-1<sz:=by omega
     generalize p5+hd-1=y5 at*
     generalize kZ p5 p6 sz H (u+1)=W at*
     clear m7 hbd hA CH hzero hend e2 hL hL' e7 KQ LA
     have amD:yZ [.int .u64 0,.int .i64 ((u:Int)+1+1)]=some (.pure (.tuple ⟨[.int .u64 ((u:Int)+1+1),.int .i64 0]⟩)):=by
      simp only[yZ];rw[if_pos ⟨trivial,by omega,by omega⟩]
     repeat' first |simp(maxSteps:=2000000) (disch:=omega) only[go_sem, *,Tryz.results22] | (first |apply fZ |apply fV |apply f_ |apply fW |apply fX |apply fY |apply ga |apply gd)<;>intro _ | (first |apply iz |apply iA |apply iB |apply iC)<;>intro _ |refine aK (id:=9) (L:=yU) (by kernel_rfl) (by kernel_rfl) ?_
     refine ih (H.length-(u+1+1)) _ _ _ (by omega) ⟨u+1+1,by omega,rfl,?_⟩
     rw[hstep,List.map_set]
     simp(maxSteps:=2000000) (disch:=omega) only[go_sem, *]
     exact⟨by simp,fun j hj=>by simp(disch:=omega) only[aE,q1 j hj],by simp⟩
  ·have e7: ¬ (i:Int)<H.length:=by omega
   obtain rfl:i=H.length:=by omega
   rw[hend] at q2
   repeat' first |simp(maxSteps:=2000000) (disch:=omega) only[go_sem, *,Tryz.results22] | (first |apply fZ |apply fV |apply f_ |apply fW |apply fX |apply fY |apply ga |apply gd)<;>intro _ | (first |apply iz |apply iA |apply iB |apply iC)<;>intro _ |refine aK (id:=9) (L:=yU) (by kernel_rfl) (by kernel_rfl) ?_
   exact fun i B e=>(q1 i (hW.lt e)).trans e
end Go.Proofs.YtofmbmclopgldaaGreat
set_option linter.unusedVariables false
set_option linter.unusedSimpArgs false
namespace Go.Proofs.YtofmbmclopgldaaGreat
open Go.Am
theorem zb:∀ (ts:List Int) (k:Int),∀ x∈hts k ts,k≤x
 | [],k,x,h=>by simp[hts] at h
 |t::ts,k,x,h=>by
  simp only[hts,List.mem_append,List.mem_replicate] at h
  rcases h with ⟨_,rfl⟩ |h
  ·omega
  ·have:=zb ts (k+1) x h;omega
theorem zc:∀ (ts:List Int) (k:Int),KP (hts k ts)
 | [],k => .nil
 |t::ts,k=>by
  rw[hts]
  unfold KP
  rw[List.pairwise_append]
  refine⟨List.pairwise_replicate.2 (.inr (by omega)),zc ts (k+1),fun a ha b hb=>?_⟩
  rw[List.mem_replicate] at ha
  have:=zb ts (k+1) b hb
  omega
structure ze (l:cK):Prop where
 p5:0≤l.P.getD 5 0
 p6:l.P.getD 6 0=l.P.getD 5 0+6
 p9:l.P.getD 6 0+l.H.length≤l.P.getD 9 0
 sz:l.P.getD 9 0≤100000
 len:l.H.length≤1024
 bd:∀ i,i<l.H.length→1≤l.H.getD i 0∧l.H.getD i 0≤6
 ux:KP l.H
def jH (l:cK):List Int:=tO (l.P.getD 5 0).toNat (l.P.getD 6 0).toNat (l.P.getD 9 0).toNat l.H 0
noncomputable def HE:List Value→Option (AP Value)
 | [.pointer (some p)]=>some <| (tI (.pointer (some p))).bind fun l=>cond (@decide (ze l) (Classical.propDecidable _)) (.newRow ((jH l).map (.int .u64)) fun g => .pure (.slice (some ⟨g,0,none⟩) (l.P.getD 9 0).toNat (l.P.getD 9 0).toNat)) (.fail "")
 | _=>none
theorem tQ {α β:Type} {p:AP α} {f:α→AP β} {h:PT ak} {n:Nat} {v:β} {s':HS} (hp:Reads p) (e:(p.bind f).run 0 (S0 h n) = .ok v s'):∃ a,p.look h=some a∧(f a).run 0 (S0 h n) = .ok v s':=by
 rw[AP.run_bind] at e
 cases hr:p.run 0 (S0 h n) with
 |fail w=>rw[hr] at e;simp[bH] at e
 |ok a s1=>
  rw[hr] at e
  obtain⟨rfl,hl⟩:=hp.run hr
  exact⟨a,hl,e⟩
theorem Pq {α:Type} {cs:List α} (h:cs.length=30):∃ c0 c1 c2 c3 c4 c5 c6 c7 c8 c9 KD KE Hu IY ME MF c16 c17 c18 c19 c20 c21 c22 c23 c24 c25 c26 c27 c28 c29,cs=[c0,c1,c2,c3,c4,c5,c6,c7,c8,c9,KD,KE,Hu,IY,ME,MF,c16,c17,c18,c19,c20,c21,c22,c23,c24,c25,c26,c27,c28,c29]:=by
 match cs,h with
 | [c0,c1,c2,c3,c4,c5,c6,c7,c8,c9,KD,KE,Hu,IY,ME,MF,c16,c17,c18,c19,c20,c21,c22,c23,c24,c25,c26,c27,c28,c29],_=>exact⟨c0,c1,c2,c3,c4,c5,c6,c7,c8,c9,KD,KE,Hu,IY,ME,MF,c16,c17,c18,c19,c20,c21,c22,c23,c24,c25,c26,c27,c28,c29,rfl⟩
theorem Pr {α:Type} {cs:List α} (h:cs.length=10):∃ c0 c1 c2 c3 c4 c5 c6 c7 c8 c9,cs=[c0,c1,c2,c3,c4,c5,c6,c7,c8,c9]:=by
 match cs,h with
 | [c0,c1,c2,c3,c4,c5,c6,c7,c8,c9],_=>exact⟨c0,c1,c2,c3,c4,c5,c6,c7,c8,c9,rfl⟩
noncomputable abbrev Oto:Over:=eN [(70,yZ)]
theorem acE:bf Tryz.prog 22 HE:=by
 refine sN (O:=Oto) (aN (.cons aci .nil)) bA ?_
 intro args m hm h n N Old dB v h1 n1 hr hold hid hN
 unfold HE at hm
 split at hm
 ·rename_i p
  simp only[Option.some.injEq] at hm
  subst hm
  obtain⟨l,hl,hr⟩:=tQ (gQ _) hr
  replace hr:=cU hr
  obtain⟨hc,hr⟩:=hr
  have hok:ze l:=@of_decide_eq_true _ (Classical.propDecidable _) hc
  replace hr:=oL hr
  obtain⟨hs,rfl⟩:=run_pure hr
  have e1:h1=_:=congrArg HS.heap hs
  have e2:n1=_:=congrArg HS.next hs
  simp only[S0] at e1 e2
  subst e1 e2
  clear hs hr hc
  have hlt:∀ i B,h.get i=some B→i<N∧ ¬(n≤i∧i<n+1):=fun i B e=>hid i (hold.id i B e)
  have hW:bL h N:=bL.of_lt fun i B e=>(hlt i B e).1
  obtain⟨lb,ro,hv,tv,hp,hb,qI,Hv,hH,hT,MB,MC,IZ,Bm,Pg,KG⟩:=jg hold.rows hl
  cases hp
  obtain⟨S,H,T,P,V⟩:=l
  simp only at hb qI Hv hH hT MB MC IZ Bm Pg KG
  obtain⟨s0,s1,s2,s3,s4,s5,s6,s7,s8,s9,s10,s11,s12,s13,s14,s15,s16,s17,s18,s19,s20,s21,s22,s23,s24,s25,s26,s27,s28,s29,rfl⟩:=Pq IZ
  have Uq:P.length=10:=by have:=congrArg List.length Bm;simp at this;omega
  obtain⟨q0,q1,q2,q3,q4,q5,q6,q7,q8,q9,rfl⟩:=Pr Uq
  simp only[List.drop_succ_cons,List.drop_zero,List.take_succ_cons,List.take_zero,List.map_cons,List.map_nil,List.cons.injEq,and_true] at Bm
  obtain⟨rfl,rfl,rfl,rfl,rfl,rfl,rfl,rfl,rfl,rfl⟩:=Bm
  obtain⟨k5,k6,k9,kz,kn,kb,ka⟩:=hok
  simp only[List.getD_cons_succ,List.getD_cons_zero] at k5 k6 k9 kz kn kb ka
  obtain⟨p5,rfl⟩:=Int.eq_ofNat_of_zero_le k5
  subst k6
  obtain⟨sz,rfl⟩:=Int.eq_ofNat_of_zero_le (show 0≤q9 by omega)
  simp only[List.getElem?_cons_succ,List.getElem?_cons_zero,Option.some.injEq] at qI
  subst qI
  obtain⟨ha,hcap,rfl,-⟩:=hH.len
  have hb':h.get lb=some (.cells (PT.ofList .leaf 0 [s0,s1,s2,s3,s4,s5,s6,s7,s8,s9,s10,s11,s12,s13,s14,s15,.int .i64 q0,.int .i64 q1,.int .i64 q2,.int .i64 q3,.int .i64 q4,.int .i64 (p5:Int),.int .i64 ((p5+6:Nat):Int),.int .i64 q7,.int .i64 q8,.int .i64 (sz:Int),s26,.slice ha H.length hcap,s28,s29]) ro):=hb
  have hw:jH ⟨[s0,s1,s2,s3,s4,s5,s6,s7,s8,s9,s10,s11,s12,s13,s14,s15,.int .i64 q0,.int .i64 q1,.int .i64 q2,.int .i64 q3,.int .i64 q4,.int .i64 (p5:Int),.int .i64 ((p5:Int)+6),.int .i64 q7,.int .i64 q8,.int .i64 (sz:Int),s26,.slice ha H.length hcap,s28,s29],H,T,[q0,q1,q2,q3,q4,(p5:Int),(p5:Int)+6,q7,q8,(sz:Int)],V⟩=tO p5 (p5+6) sz H 0:=rfl
  simp only[List.getD_cons_succ,List.getD_cons_zero,hw]
  refine(Pp (O:=Oto) rfl _ _ _ _ _ _ _ _ _ _ _ _ _ _ _ _ _ _ _ _ _ _ _ _ _ _ p5 (p5+6) sz _ _ H lb ro h N hW hb' hH kb ka rfl (by omega) (by omega) kn).mono ?_
  rintro v2 h2 n2 ⟨rfl,hk,rfl,hr2⟩
  have hnew:BV dB n (n+1) (fun _=>N) n N := .inr ⟨Nat.le_refl _,Nat.lt_succ_self _,rfl⟩
  refine⟨fun _=>N,fun i q1 q2=>Nat.le_refl N,fun i j q1 q2 q3 q4 _=>by omega,.slice n 0 _ _ N hnew,fun i B e=>?_⟩
  rw[PT.aZ] at e
  split at e
  ·rename_i hi;subst hi
   obtain rfl:=Option.some.inj e
   refine .inr ⟨_,?_,.cells _ _ _ (bQ.refl _ fun u hu=>?_)⟩
   ·rw[sV (by omega)]
    exact hr2
   ·obtain⟨x,_,rfl⟩:=List.mem_map.1 hu
    exact .int _ _
  ·exact .inl ⟨e,hk _ _ e⟩
 ·simp at hm
end Go.Proofs.YtofmbmclopgldaaGreat
set_option linter.unusedVariables false
set_option linter.unusedSimpArgs false
namespace Go.Proofs.YtofmbmclopgldaaGreat
open Go.Am
theorem p_:∀ (H:List Int) (b:Int),(∀ j,j<H.length→1≤H.getD j 0∧H.getD j 0≤6)→b≤eZ b H∧eZ b H≤b+11*(H.length:Int)
 | [],b,_=>by simp[eZ]
 |x::r,b,h=>by
  have hx:=h 0 (by simp)
  simp only[List.getD_cons_zero] at hx
  have:=p_ r (b+(5+x)) fun j hj=>by have:=h (j+1) (by simpa using hj);simpa using this
  simp only[eZ,List.length_cons];omega
section
variable {th sl en bu kd dn t0 t1 t2 t3 t4 t5 lo tr ba:Int} {xs:List Int}
theorem DZ.keep {h h':PT ak} {lb gb:Nat} {l:cK} {cv:Value} (H:DZ th sl en bu kd dn t0 t1 t2 t3 t4 t5 lo tr ba xs h lb l gb cv) (k:Kept h h'):DZ th sl en bu kd dn t0 t1 t2 t3 t4 t5 lo tr ba xs h' lb l gb cv:=
 ⟨H.ok,mS k H.look,H.V,H.H,H.P,H.T,H.acf.keep k,H.cells⟩
structure wW (l:cK) (V:Int) (sz:Nat):Prop where
 eV:l.V=V
 V1:1≤V
 V2:V≤64
 KR:ze l
 p9:l.P.getD 9 0=sz
 sz1:12≤sz
 RE:sz≤20000
 p7:12≤l.P.getD 7 0∧l.P.getD 7 0≤2000
 p7':l.P.getD 7 0=l.P.getD 6 0+l.H.length
 p8:l.P.getD 8 0=l.P.getD 7 0+V*7
 T:l.T=Cp (l.P.getD 8 0) l.H
 gH:eZ (l.P.getD 8 0) l.H=sz
 PL:∃ q0 q1 q2 q3 q4 q5 q6 q7 q8,l.P=[q0,q1,q2,q3,q4,q5,q6,q7,q8,(sz:Int)]
theorem HF {h:PT ak} {lb gb:Nat} {l:cK} {cv:Value} (H:DZ th sl en bu kd dn t0 t1 t2 t3 t4 t5 lo tr ba xs h lb l gb cv):∃ sz,wW l (a_ kd dn xs) sz:=by
 have c1:=H.ok
 have ai9:=l9 ⟨(cO c1).2.2.2.2.2.1,(cO c1).2.2.2.2.2.2.1⟩
 have hV:=oS (cO c1).1
 have KG:=Hw c1
 obtain⟨-,⟨f2,f2'⟩,⟨f3,f3'⟩,⟨f4,f4'⟩,⟨f5,f5'⟩,-,-,-⟩:=cO c1
 have hE:=kM (en:=en) f3 f3' f4 f4'
 have hbd:∀ i,i<(hts 1 [t0,t1,t2,t3,t4,t5]).length→1≤(hts 1 [t0,t1,t2,t3,t4,t5]).getD i 0∧(hts 1 [t0,t1,t2,t3,t4,t5]).getD i 0≤6:=fun i hi=>by
  have:=pX [t0,t1,t2,t3,t4,t5] 1 1 6 (by omega) (by simp) ((hts 1 [t0,t1,t2,t3,t4,t5]).getD i 0) (by simp[List.getD,hi])
  exact this
 have pV:=zc [t0,t1,t2,t3,t4,t5] 1
 have hae:=p_ (hts 1 [t0,t1,t2,t3,t4,t5]) (tL sl en bu lo (hts 1 [t0,t1,t2,t3,t4,t5])+a_ kd dn xs*7) hbd
 obtain⟨hlV,ZY,MG,hlT⟩:=And.intro H.V (And.intro H.H (And.intro H.P H.T))
 have hP6:tL sl en bu lo (hts 1 [t0,t1,t2,t3,t4,t5])=0+sl*1+1*cJ en sl bu+1+lo*3+lo*1+6+((hts 1 [t0,t1,t2,t3,t4,t5]).length:Int)*1:=rfl
 obtain⟨sz,hsz⟩:∃ sz:Nat,eZ (tL sl en bu lo (hts 1 [t0,t1,t2,t3,t4,t5])+a_ kd dn xs*7) (hts 1 [t0,t1,t2,t3,t4,t5])=sz:=⟨(eZ (tL sl en bu lo (hts 1 [t0,t1,t2,t3,t4,t5])+a_ kd dn xs*7) (hts 1 [t0,t1,t2,t3,t4,t5])).toNat,by omega⟩
 refine⟨sz,hlV,by omega,by omega,?_,?_,by omega,by omega,?_,?_,?_,?_,?_,?_⟩
 ·refine⟨?_,?_,?_,?_,?_,?_,?_⟩<;>simp only[MG,ZY,placesOf,List.getD_cons_succ,List.getD_cons_zero]<;>first |omega |exact hbd |exact pV
 ·simp only[MG,placesOf,List.getD_cons_succ,List.getD_cons_zero,hsz]
 ·simp only[MG,placesOf,List.getD_cons_succ,List.getD_cons_zero];exact KG
 ·simp only[MG,ZY,placesOf,List.getD_cons_succ,List.getD_cons_zero];omega
 ·simp only[MG,placesOf,List.getD_cons_succ,List.getD_cons_zero]
 ·simp only[MG,ZY,hlT,placesOf,List.getD_cons_succ,List.getD_cons_zero]
 ·simp only[MG,ZY,placesOf,List.getD_cons_succ,List.getD_cons_zero,hsz]
 ·rw[MG];unfold placesOf;rw[hsz];exact⟨_,_,_,_,_,_,_,_,_,rfl⟩
end
end Go.Proofs.YtofmbmclopgldaaGreat
