/-
A part.
-/
import Derived.Test.YtofmbmclopgldaaGreatT9P6
set_option linter.all false
set_option maxRecDepth 100000
set_option maxHeartbeats 4000000
namespace Go.Proofs.YtofmbmclopgldaaGreat
open Go.Am Tryz
def kF:List Value→Option (AP Value)
 | [.agg ⟨[.int .i64 th,.int .i64 sl,.int .u8 en,.int .i64 bu,.int .u8 kd,.int .i64 dn,s,.int .i64 t0,.int .i64 t1,.int .i64 t2,.int .i64 t3,.int .i64 t4,.int .i64 t5,.int .i64 lo,.int .i64 tr,.int .i64 ba]⟩]=>
  some ((eM .u64 s).bind fun xs=>cond (decide (xs.length<1000000000000000)) (.pure (.int .i64 (dO (gq th sl en bu kd dn t0 t1 t2 t3 t4 t5 lo tr ba xs)))) (.fail ""))
 | _=>none
theorem K_:bG prog 108 kF:=by
 refine ct aqs bU ?_;intro args m hm;unfold kF at hm;split at hm
 ·rename_i th sl en bu kd dn s t0 t1 t2 t3 t4 t5 lo tr ba;simp only[Option.some.injEq] at hm;subst hm;refine⟨fun h v=>∃ xs,aN .u64 h s xs∧xs.length<1000000000000000∧v = .int .i64 (dO (gq th sl en bu kd dn t0 t1 t2 t3 t4 t5 lo tr ba xs)),fun h n v s' hR e=>?_,fun h N v hlt hv=>?_⟩
  ·obtain⟨xs,hx,e⟩:=jf hR e;obtain⟨hl,e⟩:=ec e;obtain⟨h1,rfl⟩:=run_pure e;exact⟨h1,.int _ _,xs,hx,of_decide_eq_true hl,rfl⟩
  ·obtain⟨xs,hx,hl,rfl⟩:=hv;exact Pj th sl en bu kd dn t0 t1 t2 t3 t4 t5 lo tr ba s xs h N hlt hx hl
 ·simp at hm
theorem cr{th sl en bu kd dn t0 t1 t2 t3 t4 t5 lo tr ba:Int}{xs:List Int}(h:gq th sl en bu kd dn t0 t1 t2 t3 t4 t5 lo tr ba xs=true):
  cq kd dn xs=true∧(1≤en∧en≤3)∧(1≤sl∧sl≤64)∧(0≤bu∧bu≤16)∧(1≤lo∧lo≤16)∧(0≤t0∧0≤t1∧0≤t2∧0≤t3∧0≤t4∧0≤t5)∧t0+t1+t2+t3+t4+t5≤1024∧(en=3→1≤bu):=by
 simp only[gq,Bool.and_eq_true,Bool.not_eq_true',Bool.or_eq_false_iff,decide_eq_true_eq,decide_eq_false_iff_not] at h;obtain⟨⟨⟨⟨⟨⟨⟨⟨⟨⟨⟨⟨⟨⟨a0,a1⟩,a2⟩,a3⟩,a4⟩,a5⟩,a6⟩,a7⟩,a8⟩,a9⟩,vJ⟩,wu⟩,zu⟩,zH⟩,zI⟩:=h;refine⟨wu,⟨by omega,by omega⟩,a7,?_,zu,⟨by omega,by omega,by omega,by omega,by omega,by omega⟩,by omega,fun e=>?_⟩
 ·split at vJ<;>simp at vJ<;>omega
 ·rw[if_pos e] at vJ;simp at vJ;omega
theorem ji{kd dn:Int}{xs:List Int}(h:cq kd dn xs=true):1≤aC kd dn xs∧aC kd dn xs≤64:=by
 unfold cq at h;unfold aC;split at h
 ·rename_i hk;subst hk;simp
 ·split at h
  ·rename_i hk;subst hk;simp at h ⊢;omega
  ·split at h
   ·rename_i hk;subst hk;simp at h ⊢;omega
   ·simp at h
theorem gJ{en sl bu:Int}(c3:1≤sl)(c3':sl≤64)(c4:0≤bu)(c4':bu≤16):0≤bH en sl bu∧bH en sl bu≤200:=by
 unfold bH;split
 ·omega
 ·split
  ·omega
  ·split<;>omega
theorem ur{kd dn:Int}{xs:List Int}(h:cq kd dn xs=true):xs.length<64:=by
 unfold cq at h;split at h
 ·simp at h;rw[h.2];simp
 ·split at h
  ·simp at h;rw[h.2];simp
  ·split at h
   ·simp at h;omega
   ·simp at h
def hts:Int→List Int→List Int
 | _,[]=>[]
 |k,t::ts=>List.replicate t.toNat k++hts (k+1) ts
def tN:Int→List Int→List Int
 | _,[]=>[]
 |a,x::r=>a::tN (a+(5+x)) r
def cS:Int→List Int→Int
 |a,[]=>a
 |a,x::r=>cS (a+(5+x)) r
theorem Pm{a:Int}{H:List Int}{i:Nat}(hi:i<H.length):tN a (H.drop i)=a::tN (a+(5+H.getD i 0)) (H.drop (i+1)):=by
 rw[List.drop_eq_getElem_cons hi,tN];simp[List.getD,hi]
theorem Eh{a:Int}{H:List Int}{i:Nat}(hi:i<H.length):cS a (H.drop i)=cS (a+(5+H.getD i 0)) (H.drop (i+1)):=by
 rw[List.drop_eq_getElem_cons hi,cS];simp[List.getD,hi]
theorem yw:∀ (H:List Int) (a:Int),(tN a H).length=H.length
 | [],a=>rfl
 |x::r,a=>by simp[tN,yw r]
theorem mL:∀ (ts:List Int) (k lo hi:Int),lo≤k→k+ts.length≤hi+1→∀ x∈hts k ts,lo≤x∧x≤hi
 | [],k,lo,hi,h1,h2,x,hx=>by simp[hts] at hx
 |t::ts,k,lo,hi,h1,h2,x,hx=>by
  simp only[hts,List.mem_append,List.mem_replicate] at hx;simp only[List.length_cons,Int.natCast_add,Int.cast_ofNat_Int] at h2
  rcases hx with ⟨_,rfl⟩ |hx
  ·have:(0:Int)≤ts.length:=Int.natCast_nonneg _;omega
  ·exact mL ts (k+1) lo hi qJ qJ x hx
theorem bg.Ei{k:IntKind}{h h':PT aj}{lo:Nat}{v:Value}{X:List Int}(g:bg k h lo v X)(hk:∀ i B,lo≤i→h.get i=some B→h'.get i=some B):bg k h' lo v X:=by
 rcases g with g | ⟨b,e,zn,mT⟩
 ·exact .inl g
 ·exact .inr ⟨b,e,zn,hk b _ zn mT⟩
theorem Hq{h h3 h' h2:PT aj}{N n2 n':Nat}{B:Option aj}{G:aj}{cv hv tv:Value}{xs H T:List Int}(hW:bQ h N)(hW3:bQ h3 n2)(hk3:Kept h h3)(r1:Kept h3 h2)(hn:N.succ≤n2)(hn':n2+2≤n')
  (r2:∀ (i:Nat) (B:aj),n2+2≤i→h'.get i=some B→h2.get i=some B) (AF:aN .u64 h3 cv xs) (q6:bg .i64 h' (n2+2) hv H) (r9:bg .i64 h2 (n'+9) tv T) (r8:h2.get (n'+8)=some G):
  Kept h (h2.set n2 B)∧N≤n2∧(h2.set n2 B).get n2=B∧(h2.set n2 B).get (n'+8)=some G∧aN .u64 (h2.set n2 B) cv xs∧aN .i64 (h2.set n2 B) hv H∧aN .i64 (h2.set n2 B) tv T:=by
 refine⟨(hk3.trans r1).set' hW qJ,by omega,aI,?_,AF.keep (r1.set' hW3 (Nat.le_refl _)),(bg.Ei q6 fun i B hi e=>?_).cR,(bg.Ei r9 fun i B hi e=>?_).cR⟩
 ·rw[az qJ];exact r8
 ·rw[az qJ];exact r2 i B hi e
 ·rw[az qJ];exact e
theorem Zu{O:Over}(o16:O 108=kF)(o46:O 111=qj)(o44:O 78=lG)(o45:O 110=uo)(o43:∀ a,O 109 a=none)(th sl en bu kd dn t0 t1 t2 t3 t4 t5 lo tr ba:Int)(s:Value)(xs:List Int)(h:PT aj)(N:Nat)(hW:bQ h N)(hs:aN .u64 h s xs)(hl:xs.length<1000000000000000):
  cE prog O 45 [.agg ⟨[.int .i64 th,.int .i64 sl,.int .u8 en,.int .i64 bu,.int .u8 kd,.int .i64 dn,s,.int .i64 t0,.int .i64 t1,.int .i64 t2,.int .i64 t3,.int .i64 t4,.int .i64 t5,.int .i64 lo,.int .i64 tr,.int .i64 ba]⟩] h N
   fun v h' n'=>(gq th sl en bu kd dn t0 t1 t2 t3 t4 t5 lo tr ba xs=false∧v = .tuple ⟨[.pointer none,.int .i64 2]⟩∧Kept h h')∨(gq th sl en bu kd dn t0 t1 t2 t3 t4 t5 lo tr ba xs=true∧∃ lb cv hv tv gb,v = .tuple ⟨[.pointer (some ⟨lb,0,none⟩),.int .i64 0]⟩∧Kept h h'∧N≤lb∧
    h'.get lb=some (.cells (PT.ofList .leaf 0 [Value.int .i64 th,.int .i64 sl,.int .u8 en,.int .i64 bu,.int .u8 kd,.int .i64 dn,cv,.int .i64 t0,.int .i64 t1,.int .i64 t2,.int .i64 t3,.int .i64 t4,.int .i64 t5,.int .i64 lo,.int .i64 tr,.int .i64 ba,.int .i64 0,.int .i64 (0+sl*1),.int .i64 (0+sl*1+1*bH en sl bu),.int .i64 (0+sl*1+1*bH en sl bu+1),.int .i64 (0+sl*1+1*bH en sl bu+1+lo*3),.int .i64 (0+sl*1+1*bH en sl bu+1+lo*3+lo*1),.int .i64 (0+sl*1+1*bH en sl bu+1+lo*3+lo*1+6),.int .i64 (0+sl*1+1*bH en sl bu+1+lo*3+lo*1+6+((hts 1 [t0,t1,t2,t3,t4,t5]).length:Int)*1),.int .i64 (0+sl*1+1*bH en sl bu+1+lo*3+lo*1+6+((hts 1 [t0,t1,t2,t3,t4,t5]).length:Int)*1+aC kd dn xs*7),.int .i64 (cS (0+sl*1+1*bH en sl bu+1+lo*3+lo*1+6+((hts 1 [t0,t1,t2,t3,t4,t5]).length:Int)*1+aC kd dn xs*7) (hts 1 [t0,t1,t2,t3,t4,t5])),.slice (some ⟨gb,0,none⟩) 8 (aA+4),hv,tv,.int .i64 (aC kd dn xs)]) false)∧
    h'.get gb=some (.cells (PT.ofList .leaf 0 [Value.int .u8 1,.int .i64 (0),.int .i64 sl,.int .i64 1,.int .u8 2,.int .i64 (0+sl*1),.int .i64 1,.int .i64 (bH en sl bu),.int .u8 3,.int .i64 (0+sl*1+1*bH en sl bu),.int .i64 1,.int .i64 1,.int .u8 4,.int .i64 (0+sl*1+1*bH en sl bu+1),.int .i64 lo,.int .i64 3,.int .u8 5,.int .i64 (0+sl*1+1*bH en sl bu+1+lo*3),.int .i64 lo,.int .i64 1,.int .u8 6,.int .i64 (0+sl*1+1*bH en sl bu+1+lo*3+lo*1),.int .i64 6,.int .i64 1,.int .u8 7,.int .i64 (0+sl*1+1*bH en sl bu+1+lo*3+lo*1+6),.int .i64 ((hts 1 [t0,t1,t2,t3,t4,t5]).length:Int),.int .i64 1,.int .u8 8,.int .i64 (0+sl*1+1*bH en sl bu+1+lo*3+lo*1+6+((hts 1 [t0,t1,t2,t3,t4,t5]).length:Int)*1),.int .i64 (aC kd dn xs),.int .i64 7]) false)∧aN .u64 h' cv xs∧aN .i64 h' hv (hts 1 [t0,t1,t2,t3,t4,t5])∧aN .i64 h' tv (tN (0+sl*1+1*bH en sl bu+1+lo*3+lo*1+6+((hts 1 [t0,t1,t2,t3,t4,t5]).length:Int)*1+aC kd dn xs*7) (hts 1 [t0,t1,t2,t3,t4,t5]))):=by
 have hlt:∀ i B,h.get i=some B→i<N:=fun i B e=>hW.lt e;have hrd:=fun h' hk z f d ops r K m n=>@gI _ _ h' _ _ hs z f d ops r K m n hk;obtain⟨a,cap,rfl,-⟩:=hs.len;refine ay (N:=158) func45 rfl rfl ?_;intro z hP hO hro hN hQ
 repeat' first|simp(disch:=try exact yj) only[go_sem, *,results45,kF,mK] | (first|apply dI|apply dD|apply dJ|apply dF|apply dG|apply dH|apply dK|apply dL)<;>intro _ | (first|apply ez|apply eA|apply eB|apply eC)<;>intro _ |refine aB (by cbv) (by first|rfl |cbv) ?_
 ·exact⟨by simp[dO],hW.kept (Nat.le_refl _)⟩
 ·rename_i mM;have aqu:=ur (cr (by simpa using mM)).1;refine DW ?_ ?_ (by rw[hP,hO];exact(clone _ xs _ _ (hW.set (Nat.le_succ _) (Nat.lt_succ_self _)) (hs.keep (hW.kept (Nat.le_refl _))) qJ).wf (hW.set (Nat.le_succ _) (Nat.lt_succ_self _))) ?_
  ·simp(disch:=try exact yj) only[go_sem, *]
  ·simp(disch:=try exact yj) only[go_sem, *]
  ·rintro cv h2 n2 ⟨⟨hk2,AF⟩,hn2,Fx⟩;obtain⟨ca,cc,rfl,-⟩:=AF.cR.len;have e2:=hk2 N _ aI;have hkh:Kept h h2:=(hW.kept (Nat.le_refl _)).trans hk2;simp(disch:=try exact yj) only[go_sem, *];generalize L8:h2.set N _=h3;have e3:=xK L8;have aeD:fQ .u64 h3 (N+1) n2 (.slice ca xs.length cc) xs:=by rw[←L8];exact AF.low (Nat.lt_succ_self N)
   have hW3:bQ h3 n2:=by rw[←L8];exact Fx.set (Nat.le_refl _) qJ
   have hk3:Kept h h3:=by rw[←L8];exact hkh.set' hW (Nat.le_refl _)
   have hl3:=aeD.cR.look;have aFc:=fun h' hk z f d ops r K m n=>@cw _ _ _ _ h' hl3 z f d ops r K m n hk;have aFd:=fun h' hk z L f d ops r K m n lo rd wr fs=>@eT _ _ _ _ h' hl3 z L f d ops r K m n lo rd wr fs hk;have k1:Kept h3 (h3.set n2 (some (.cells (PT.ofList .leaf 0 [Value.int .i64 th,.int .i64 sl,.int .u8 en,.int .i64 bu,.int .u8 kd,.int .i64 dn,.slice ca xs.length cc,.int .i64 t0,.int .i64 t1,.int .i64 t2,.int .i64 t3,.int .i64 t4,.int .i64 t5,.int .i64 lo,.int .i64 tr,.int .i64 ba,.int .i64 0,.int .i64 0,.int .i64 0,.int .i64 0,.int .i64 0,.int .i64 0,.int .i64 0,.int .i64 0,.int .i64 0,.int .i64 0,.slice none 0 0,.slice none 0 0,.slice none 0 0,.int .i64 0]) false))):=hW3.kept (Nat.le_refl _);have Zv:=mM;obtain⟨c1,⟨c2,c2'⟩,⟨c3,c3'⟩,⟨c4,c4'⟩,⟨c5,c5'⟩,⟨c6,c7,c8,c9,RV,L9⟩,IX,Pn⟩:=cr (by simpa using Zv);clear hrd L8 hk2 AF Fx e2 hkh h2 hlt
   repeat' first|simp(disch:=try exact yj) only[go_sem, *,results45,lG] | (first|apply dI|apply dD|apply dJ|apply dF|apply dG|apply dH|apply dK|apply dL)<;>intro _ | (first|apply ez|apply eA|apply eB|apply eC)<;>intro _ |refine aB (by cbv) (by first|rfl |cbv) ?_
   have hlen:(hts 1 [t0,t1,t2,t3,t4,t5]).length≤1024:=by simp[hts];omega
   clear k1;refine a_ (fun t m h' n'=>∃ (i:Nat) (H:List Int) (hv:Value),i≤6∧t=6-i∧H++hts (i+1) ([t0,t1,t2,t3,t4,t5].drop i)=hts 1 [t0,t1,t2,t3,t4,t5]∧
    m.n=158∧m.fF=[]∧m.get 1 = .pointer (some ⟨N,0,none⟩)∧m.get 5 = .pointer (some ⟨n2+1,0,none⟩)∧m.get 36 = .agg ⟨[.int .i64 t0,.int .i64 t1,.int .i64 t2,.int .i64 t3,.int .i64 t4,.int .i64 t5]⟩∧m.get 37 = .int .i64 i∧
    Kept h3 h'∧bQ h' n'∧n2+2≤n'∧h'.get n2=some (.cells (PT.ofList .leaf 0 [Value.int .i64 th,.int .i64 sl,.int .u8 en,.int .i64 bu,.int .u8 kd,.int .i64 dn,.slice ca xs.length cc,.int .i64 t0,.int .i64 t1,.int .i64 t2,.int .i64 t3,.int .i64 t4,.int .i64 t5,.int .i64 lo,.int .i64 tr,.int .i64 ba,.int .i64 0,.int .i64 0,.int .i64 0,.int .i64 0,.int .i64 0,.int .i64 0,.int .i64 0,.int .i64 0,.int .i64 0,.int .i64 0,.slice none 0 0,hv,.slice none 0 0,.int .i64 (aC kd dn xs)]) false)∧
    h'.get (n2+1)=some (.cells (PT.ofList .leaf 0 [.pointer (some ⟨n2,0,none⟩)]) false)∧bg .i64 h' (n2+2) hv H) 6 ?_ ?_
   ·refine⟨0,[],.slice none 0 0,by omega,by omega,by simp,?_⟩;simp(disch:=try exact yj) only[go_sem, *];refine⟨?_,?_,Nat.le_refl _,.inl ⟨rfl,rfl⟩⟩
    ·(repeat first|assumption|exact Kept.refl _ |refine Kept.set' (by assumption) ?_ ?_ |omega)
    ·(repeat refine bQ.set' qJ ?_);first|assumption|exact bQ.mono (by assumption) qJ
   ·rintro t m h' n' ih ⟨i,H,hv,hi,rfl,hH,m1,m2,m3,m4,m5,m6,q1,q2,q3,q4,q5,q6⟩;by_cases hi6:i<6
    ·obtain⟨ti,ht1,ht2,ht3⟩:∃ ti,([.int .i64 t0,.int .i64 t1,.int .i64 t2,.int .i64 t3,.int .i64 t4,.int .i64 t5]:List Value)[i]? = some (.int .i64 ti)∧[t0,t1,t2,t3,t4,t5].drop i=ti::[t0,t1,t2,t3,t4,t5].drop (i+1)∧0≤ti:=by
      have:i=0∨i=1∨i=2∨i=3∨i=4∨i=5:=by omega
      rcases this with rfl|rfl|rfl|rfl|rfl|rfl
      all_goals exact⟨_,rfl,rfl,by assumption⟩
     rw[ht2,hts] at hH;have IY:(i:Int)<6:=by omega
     have aeF:H.length+ti.toNat≤1024:=by
      rw[←hH] at hlen;simp at hlen;omega
     clear ht2
     repeat' first|simp(disch:=try exact yj) only[go_sem, *] | (first|apply dI|apply dD|apply dJ|apply dF|apply dG|apply dH|apply dK|apply dL)<;>intro _ | (first|apply ez|apply eA|apply eB|apply eC)<;>intro _ |refine aB (by cbv) (by first|rfl |cbv) ?_
     refine a_ (fun t m h' n'=>∃ (j:Nat) (X:List Int) (hv:Value),j≤ti.toNat∧t=ti.toNat-j∧X++List.replicate (ti.toNat-j) ((i:Int)+1)=H++List.replicate ti.toNat ((i:Int)+1)∧
      m.n=158∧m.fF=[]∧m.get 1 = .pointer (some ⟨N,0,none⟩)∧m.get 5 = .pointer (some ⟨n2+1,0,none⟩)∧m.get 36 = .agg ⟨[.int .i64 t0,.int .i64 t1,.int .i64 t2,.int .i64 t3,.int .i64 t4,.int .i64 t5]⟩∧m.get 37 = .int .i64 i∧
      m.get 6 = .int .i64 i∧m.get 41 = .int .i64 ti∧m.get 42 = .int .i64 j∧
      Kept h3 h'∧bQ h' n'∧n2+2≤n'∧h'.get n2=some (.cells (PT.ofList .leaf 0 [Value.int .i64 th,.int .i64 sl,.int .u8 en,.int .i64 bu,.int .u8 kd,.int .i64 dn,.slice ca xs.length cc,.int .i64 t0,.int .i64 t1,.int .i64 t2,.int .i64 t3,.int .i64 t4,.int .i64 t5,.int .i64 lo,.int .i64 tr,.int .i64 ba,.int .i64 0,.int .i64 0,.int .i64 0,.int .i64 0,.int .i64 0,.int .i64 0,.int .i64 0,.int .i64 0,.int .i64 0,.int .i64 0,.slice none 0 0,hv,.slice none 0 0,.int .i64 (aC kd dn xs)]) false)∧
      h'.get (n2+1)=some (.cells (PT.ofList .leaf 0 [.pointer (some ⟨n2,0,none⟩)]) false)∧bg .i64 h' (n2+2) hv X) ti.toNat ?_ ?_
     ·refine⟨0,H,hv,by omega,by omega,rfl,?_⟩;simp(disch:=try exact yj) only[go_sem, *]
     ·clear m1 m2 m3 m4 m5 m6 q1 q2 q3 q4 q5 q6;rintro t m h' n' ih2 ⟨j,X,hv,hj,rfl,hX,m1,m2,m3,m4,m5,m6,m7,m8,m9,q1,q2,q3,q4,q5,q6⟩;have Us:X.length+(ti.toNat-j)≤1024:=by
       have:=congrArg List.length hX;simp at this;omega
      by_cases hjt:j<ti.toNat
      ·have hj7:(j:Int)<ti:=by omega
       clear ih;have Pp:X++[(i:Int)+1]++List.replicate (ti.toNat-(j+1)) ((i:Int)+1)=H++List.replicate ti.toNat ((i:Int)+1):=by
        rw[←hX,show ti.toNat-j=(ti.toNat-(j+1))+1 by omega,List.replicate_succ];simp
       clear hX hH
       rcases q6 with ⟨rfl,hx⟩ | ⟨b,rfl,zn,mT⟩
       ·subst hx
        repeat' first|simp(disch:=try exact yj) only[go_sem, *] | (first|apply dI|apply dD|apply dJ|apply dF|apply dG|apply dH|apply dK|apply dL)<;>intro _ | (first|apply ez|apply eA|apply eB|apply eC)<;>intro _ |refine aB (by cbv) (by first|rfl |cbv) ?_
        refine ih2 (ti.toNat-(j+1)) _ _ _ qJ ⟨j+1,[(i:Int)+1],.slice (some ⟨n'+1,0,none⟩) 1 (aA+1),by omega,by omega,Pp,?_⟩;clear ih2;simp(disch:=try exact yj) only[go_sem, *];refine⟨?_,?_,?_,by omega,.inr ⟨n'+1,rfl,by omega,?_⟩⟩
        ·simp
        ·(repeat first|assumption|exact Kept.refl _ |refine Kept.set' (by assumption) ?_ ?_ |omega)
        ·(repeat refine bQ.set' qJ ?_);first|assumption|exact bQ.mono (by assumption) qJ
        ·simp(disch:=omega) only[go_sem]
       ·have VQ:=q2.lt mT
        repeat' first|simp(disch:=try exact yj) only[go_sem, *] | (first|apply dI|apply dD|apply dJ|apply dF|apply dG|apply dH|apply dK|apply dL)<;>intro _ | (first|apply ez|apply eA|apply eB|apply eC)<;>intro _ |refine aB (by cbv) (by first|rfl |cbv) ?_
        refine ih2 (ti.toNat-(j+1)) _ _ _ qJ ⟨j+1,X++[(i:Int)+1],.slice (some ⟨n'+1,0,none⟩) (X.length+1) (aA+1),by omega,by omega,Pp,?_⟩;clear ih2;simp(disch:=try exact yj) only[go_sem, *];refine⟨?_,?_,?_,by omega,.inr ⟨n'+1,?_,by omega,?_⟩⟩
        ·simp
        ·(repeat first|assumption|exact Kept.refl _ |refine Kept.set' (by assumption) ?_ ?_ |omega)
        ·(repeat refine bQ.set' qJ ?_);first|assumption|exact bQ.mono (by assumption) qJ
        ·simp
        ·simp(disch:=omega) only[go_sem,List.map_append]
      ·have hj7: ¬ (j:Int)<ti:=by omega
       clear ih2;have Pp:X=H++List.replicate ti.toNat ((i:Int)+1):=by
        rw[←hX,show ti.toNat-j=0 by omega];simp
       rw[←List.append_assoc,←Pp] at hH;clear hX Pp
       repeat' first|simp(disch:=try exact yj) only[go_sem, *] | (first|apply dI|apply dD|apply dJ|apply dF|apply dG|apply dH|apply dK|apply dL)<;>intro _ | (first|apply ez|apply eA|apply eB|apply eC)<;>intro _ |refine aB (by cbv) (by first|rfl |cbv) ?_
       refine ih (6-(i+1)) _ _ _ qJ ⟨i+1,X,hv,by omega,by omega,by simpa using hH,?_⟩;clear ih;simp(disch:=try exact yj) only[go_sem, *]
       all_goals simp
    ·have IY: ¬ (i:Int)<6:=by omega
     obtain rfl:i=6:=by omega
     have hH2:H=hts 1 [t0,t1,t2,t3,t4,t5]:=by simpa [hts] using hH
     subst hH2;clear ih hH hi hi6;have Pq:∀ i,i<(hts 1 [t0,t1,t2,t3,t4,t5]).length→1≤(hts 1 [t0,t1,t2,t3,t4,t5]).getD i 0∧(hts 1 [t0,t1,t2,t3,t4,t5]).getD i 0≤6:=fun i hi=>by
      refine mL [t0,t1,t2,t3,t4,t5] 1 1 6 qJ (by simp) _ ?_;simp[List.getD,hi]
     generalize hts 1 [t0,t1,t2,t3,t4,t5]=H at*;have IZ:H.length≤1024:=hlen;obtain⟨ha,hc,rfl,-⟩:=q6.cR.len;have e4:=q1 N _ e3;have d1 : -1000≤sl:=by omega
     have d2:sl≤1000:=by omega
     have d3 : -1000≤bu:=by omega
     have d4:bu≤1000:=by omega
     obtain⟨d5,d6⟩:=gJ (en:=en) c3 c3' c4 c4';obtain⟨d7,d8⟩:=ji c1
     repeat' first|simp(disch:=try exact yj) only[go_sem, *,uo,qj] | (first|apply dI|apply dD|apply dJ|apply dF|apply dG|apply dH|apply dK|apply dL)<;>intro _ | (first|apply ez|apply eA|apply eB|apply eC)<;>intro _ |refine aB (by cbv) (by first|rfl |cbv) ?_
     refine a_ (fun t m h2 n3=>∃ (i:Nat) (T:List Int) (tv:Value) (A:Int),i≤H.length∧t=H.length-i∧T++tN A (H.drop i)=tN (0+sl*1+1*bH en sl bu+1+lo*3+lo*1+6+H.length*1+aC kd dn xs*7) H∧cS A (H.drop i)=cS (0+sl*1+1*bH en sl bu+1+lo*3+lo*1+6+H.length*1+aC kd dn xs*7) H∧0≤A∧A≤2000+11*i∧T.length≤i∧i≤T.length∧
      m.n=158∧m.fF=[]∧m.get 5 = .pointer (some ⟨n2+1,0,none⟩)∧m.get 8 = .pointer (some ⟨n',0,none⟩)∧m.get 131 = .slice ha H.length hc∧m.get 132 = .int .i64 H.length∧m.get 133 = .int .i64 i∧
      Kept h3 h2∧(∀ i B,n2+2≤i→h'.get i=some B→h2.get i=some B)∧bQ h2 n3∧n'+9≤n3∧h2.get n2=some (.cells (PT.ofList .leaf 0 [Value.int .i64 th,.int .i64 sl,.int .u8 en,.int .i64 bu,.int .u8 kd,.int .i64 dn,.slice ca xs.length cc,.int .i64 t0,.int .i64 t1,.int .i64 t2,.int .i64 t3,.int .i64 t4,.int .i64 t5,.int .i64 lo,.int .i64 tr,.int .i64 ba,.int .i64 0,.int .i64 (0+sl*1),.int .i64 (0+sl*1+1*bH en sl bu),.int .i64 (0+sl*1+1*bH en sl bu+1),.int .i64 (0+sl*1+1*bH en sl bu+1+lo*3),.int .i64 (0+sl*1+1*bH en sl bu+1+lo*3+lo*1),.int .i64 (0+sl*1+1*bH en sl bu+1+lo*3+lo*1+6),.int .i64 (0+sl*1+1*bH en sl bu+1+lo*3+lo*1+6+H.length*1),.int .i64 (0+sl*1+1*bH en sl bu+1+lo*3+lo*1+6+H.length*1+aC kd dn xs*7),.int .i64 0,.slice (some ⟨n'+8,0,none⟩) 8 (aA+4),.slice ha H.length hc,tv,.int .i64 (aC kd dn xs)]) false)∧
      h2.get (n2+1)=some (.cells (PT.ofList .leaf 0 [.pointer (some ⟨n2,0,none⟩)]) false)∧h2.get n'=some (.cells (PT.ofList .leaf 0 [.int .i64 A]) false)∧h2.get (n'+8)=some (.cells (PT.ofList .leaf 0 [Value.int .u8 1,.int .i64 (0),.int .i64 sl,.int .i64 1,.int .u8 2,.int .i64 (0+sl*1),.int .i64 1,.int .i64 (bH en sl bu),.int .u8 3,.int .i64 (0+sl*1+1*bH en sl bu),.int .i64 1,.int .i64 1,.int .u8 4,.int .i64 (0+sl*1+1*bH en sl bu+1),.int .i64 lo,.int .i64 3,.int .u8 5,.int .i64 (0+sl*1+1*bH en sl bu+1+lo*3),.int .i64 lo,.int .i64 1,.int .u8 6,.int .i64 (0+sl*1+1*bH en sl bu+1+lo*3+lo*1),.int .i64 6,.int .i64 1,.int .u8 7,.int .i64 (0+sl*1+1*bH en sl bu+1+lo*3+lo*1+6),.int .i64 H.length,.int .i64 1,.int .u8 8,.int .i64 (0+sl*1+1*bH en sl bu+1+lo*3+lo*1+6+H.length*1),.int .i64 (aC kd dn xs),.int .i64 7]) false)∧
      bg .i64 h2 (n'+9) tv T) H.length ?_ ?_
     ·refine⟨0,[],.slice none 0 0,_,by omega,by omega,rfl,rfl,?_⟩;simp(disch:=try exact yj) only[go_sem, *,Nat.le_refl];refine⟨by omega,by omega,?_,?_,?_,.inl ⟨rfl,rfl⟩⟩
      ·(repeat first|assumption|exact Kept.refl _ |refine Kept.set' (by assumption) ?_ ?_ |omega)
      ·intro i B hi e;have:=q2.lt e;simp(disch:=omega) only[az];exact e
      ·(repeat refine bQ.set' qJ ?_);first|assumption|exact bQ.mono (by assumption) qJ
     ·clear m1 m2 m3 m4 m5 m6 q1 q4 q5;rintro t m h2 n3 ih ⟨i,T,tv,A,hi,rfl,hT,hE,Ut,Zw,WS,aFf,m1,m2,m3,m4,m5,m6,m7,r1,r2,r3,r4,r5,r6,r7,r8,r9⟩;by_cases hlt:i<H.length
      ·rcases q6 with ⟨_,rfl⟩ | ⟨b,e,zn,mT⟩
       ·simp at hlt
       ·cases e;have VQ:=q2.lt mT;have hb4:=r2 b _ zn mT;obtain⟨hx1,hx2⟩:=Pq i hlt;have u_:(H.map (Value.int .i64))[i]? = some (.int .i64 (H.getD i 0)):=by simp[List.getElem?_map,hlt,List.getD]
        rw[Pm hlt] at hT;rw[Eh hlt] at hE;have IY:(i:Int)<H.length:=by omega
        clear Pq;generalize H.getD i 0=x at*;have hT2:T++[A]++tN (A+(5+x)) (H.drop (i+1))=tN (0+sl*1+1*bH en sl bu+1+lo*3+lo*1+6+H.length*1+aC kd dn xs*7) H:=by simpa using hT
        clear hT
        rcases r9 with ⟨rfl,hx0⟩ | ⟨tb,rfl,ht1,ht2⟩
        ·subst hx0
         repeat' first|simp(disch:=try exact yj) only[go_sem, *] | (first|apply dI|apply dD|apply dJ|apply dF|apply dG|apply dH|apply dK|apply dL)<;>intro _ | (first|apply ez|apply eA|apply eB|apply eC)<;>intro _ |refine aB (by cbv) (by first|rfl |cbv) ?_
         refine ih (H.length-(i+1)) _ _ _ qJ ⟨i+1,[A],.slice (some ⟨n3+1,0,none⟩) 1 (aA+1),A+(5+x),by omega,by omega,hT2,hE,by omega,by omega,by simp only[List.length_cons,List.length_nil] at *;omega,by simp only[List.length_cons,List.length_nil] at *;omega,?_⟩;clear ih;simp(disch:=try exact yj) only[go_sem, *];refine⟨?_,?_,?_,?_,by omega,.inr ⟨n3+1,rfl,by omega,?_⟩⟩
         ·simp
         ·(repeat first|assumption|exact Kept.refl _ |refine Kept.set' (by assumption) ?_ ?_ |omega)
         ·intro j B hj e;have:=q2.lt e;simp(disch:=omega) only[az];exact r2 j B hj e
         ·(repeat refine bQ.set' qJ ?_);first|assumption|exact bQ.mono (by assumption) qJ
         ·simp(disch:=omega) only[go_sem]
        ·have ht3:=r3.lt ht2
         repeat' first|simp(disch:=try exact yj) only[go_sem, *] | (first|apply dI|apply dD|apply dJ|apply dF|apply dG|apply dH|apply dK|apply dL)<;>intro _ | (first|apply ez|apply eA|apply eB|apply eC)<;>intro _ |refine aB (by cbv) (by first|rfl |cbv) ?_
         refine ih (H.length-(i+1)) _ _ _ qJ ⟨i+1,T++[A],.slice (some ⟨n3+1,0,none⟩) (T.length+1) (aA+1),A+(5+x),by omega,by omega,hT2,hE,by omega,by omega,by simp;omega,by simp;omega,?_⟩;clear ih;simp(disch:=try exact yj) only[go_sem, *];refine⟨?_,?_,?_,?_,by omega,.inr ⟨n3+1,?_,by omega,?_⟩⟩
         ·simp
         ·(repeat first|assumption|exact Kept.refl _ |refine Kept.set' (by assumption) ?_ ?_ |omega)
         ·intro j B hj e;have:=q2.lt e;simp(disch:=omega) only[az];exact r2 j B hj e
         ·(repeat refine bQ.set' qJ ?_);first|assumption|exact bQ.mono (by assumption) qJ
         ·simp
         ·simp(disch:=omega) only[go_sem,List.map_append]
      ·have IY: ¬ (i:Int)<H.length:=by omega
       clear ih;rw[List.drop_eq_nil_of_le qJ] at hT hE;simp only[tN,cS,List.append_nil] at hT hE;subst hT hE
       repeat' first|simp(disch:=try exact yj) only[go_sem, *,results45] | (first|apply dI|apply dD|apply dJ|apply dF|apply dG|apply dH|apply dK|apply dL)<;>intro _ | (first|apply ez|apply eA|apply eB|apply eC)<;>intro _ |refine aB (by cbv) (by first|rfl |cbv) ?_
       exact⟨n2,_,_,_,n'+8,rfl,Hq hW hW3 hk3 r1 hn2 q3 r2 aeD.cR q6 r9 r8⟩
end Go.Proofs.YtofmbmclopgldaaGreat
