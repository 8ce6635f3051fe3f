/-
  A part of the proof: contracts of inner functions.
-/
import Derived.Test.YtfhmopghjoeamaaGreatT9P5
import Derived.Test.YtfhmopghjoeamaaGreatT9P6
set_option linter.unusedVariables false
set_option linter.unusedSimpArgs false
namespace Go.Proofs.YtfhmopghjoeamaaGreat
open Go.Am
def gy:List Value→Option (AP Value)
 | [.agg ⟨[.int .i64 th,.int .i64 sl,.int .u8 en,.int .i64 bu,.int .u8 kd,.int .i64 dn,s,.int .i64 t0,.int .i64 t1,.int .i64 t2,.int .i64 t3,.int .i64 t4,.int .i64 t5,.int .i64 lo,.int .i64 tr,.int .i64 ba]⟩]=>
  some ((dJ .u64 s).bind fun xs=>cond (decide (xs.length<1000000000000000)) (.pure (.int .i64 (iu (iw th sl en bu kd dn t0 t1 t2 t3 t4 t5 lo tr ba xs)))) (.fail ""))
 | _=>none
theorem Aw:bR Tryz.prog 65 gy:=by
 refine b8 VW cO ?_
 intro args m hm
 unfold gy at hm
 split at hm
 ·rename_i th sl en bu kd dn s t0 t1 t2 t3 t4 t5 lo tr ba
  simp only[Option.some.injEq] at hm
  subst hm
  refine⟨fun h v=>∃ xs,aS .u64 h s xs∧xs.length<1000000000000000∧v = .int .i64 (iu (iw th sl en bu kd dn t0 t1 t2 t3 t4 t5 lo tr ba xs)),fun h n v s' hR e=>?_,fun h N v hlt hv=>?_⟩
  ·obtain⟨xs,hx,e⟩:=j5 hR e
   obtain⟨hl,e⟩:=fK e
   obtain⟨h1,rfl⟩:=run_pure e
   exact⟨h1,.int _ _,xs,hx,of_decide_eq_true hl,rfl⟩
  ·obtain⟨xs,hx,hl,rfl⟩:=hv
   exact Ds th sl en bu kd dn t0 t1 t2 t3 t4 t5 lo tr ba s xs h N hlt hx hl
 ·simp at hm
theorem cI {th sl en bu kd dn t0 t1 t2 t3 t4 t5 lo tr ba:Int} {xs:List Int} (h:iw th sl en bu kd dn t0 t1 t2 t3 t4 t5 lo tr ba xs=true):
  iq kd dn xs=true∧(1≤en∧en≤3)∧(1≤sl∧sl≤64)∧(0≤bu∧bu≤16)∧(1≤lo∧lo≤16)∧(0≤t0∧0≤t1∧0≤t2∧0≤t3∧0≤t4∧0≤t5)∧t0+t1+t2+t3+t4+t5≤1024∧(en=3→1≤bu):=by
 simp only[iw,Bool.and_eq_true,Bool.not_eq_true',Bool.or_eq_false_iff,decide_eq_true_eq,decide_eq_false_iff_not] at h
 obtain⟨⟨⟨⟨⟨⟨⟨⟨⟨⟨⟨⟨⟨⟨a0,a1⟩,a2⟩,a3⟩,a4⟩,a5⟩,a6⟩,a7⟩,a8⟩,a9⟩,OC⟩,a11⟩,a12⟩,a13⟩,a14⟩:=h
 refine⟨a11,⟨by omega,by omega⟩,a7,?_,a12,⟨by omega,by omega,by omega,by omega,by omega,by omega⟩,by omega,fun e=>?_⟩
 ·split at OC<;>simp at OC<;>omega
 ·rw[if_pos e] at OC;simp at OC;omega
theorem mO {kd dn:Int} {xs:List Int} (h:iq kd dn xs=true):1≤aZ kd dn xs∧aZ kd dn xs≤64:=by
 unfold iq at h
 unfold aZ
 split at h
 ·rename_i hk;subst hk;simp
 ·split at h
  ·rename_i hk;subst hk;simp at h ⊢;omega
  ·split at h
   ·rename_i hk;subst hk;simp at h ⊢;omega
   ·simp at h
theorem jx {en sl bu:Int} (c3:1≤sl) (SR:sl≤64) (c4:0≤bu) (SS:bu≤16):0≤b9 en sl bu∧b9 en sl bu≤200:=by
 unfold b9
 split
 ·omega
 ·split
  ·omega
  ·split<;>omega
theorem Ay {kd dn:Int} {xs:List Int} (h:iq kd dn xs=true):xs.length<64:=by
 unfold iq at h
 split at h
 ·simp at h;rw[h.2];simp
 ·split at h
  ·simp at h;rw[h.2];simp
  ·split at h
   ·simp at h;omega
   ·simp at h
def hts:Int→List Int→List Int
 | _,[]=>[]
 |k,t::ts=>List.replicate t.toNat k++hts (k+1) ts
def y9:Int→List Int→List Int
 | _,[]=>[]
 |a,x::r=>a::y9 (a+(5+x)) r
def dS:Int→List Int→Int
 |a,[]=>a
 |a,x::r=>dS (a+(5+x)) r
theorem Dt {a:Int} {H:List Int} {i:Nat} (hi:i<H.length):y9 a (H.drop i)=a::y9 (a+(5+H.getD i 0)) (H.drop (i+1)):=by
 rw[List.drop_eq_getElem_cons hi,y9];simp[List.getD,hi]
theorem vB {a:Int} {H:List Int} {i:Nat} (hi:i<H.length):dS a (H.drop i)=dS (a+(5+H.getD i 0)) (H.drop (i+1)):=by
 rw[List.drop_eq_getElem_cons hi,dS];simp[List.getD,hi]
theorem qH:∀ (H:List Int) (a:Int),(y9 a H).length=H.length
 | [],a=>rfl
 |x::r,a=>by simp[y9,qH r]
theorem nU:∀ (ts:List Int) (k lo hi:Int),lo≤k→k+ts.length≤hi+1→∀ x∈hts k ts,lo≤x∧x≤hi
 | [],k,lo,hi,h1,h2,x,hx=>by simp[hts] at hx
 |t::ts,k,lo,hi,h1,h2,x,hx=>by
  simp only[hts,List.mem_append,List.mem_replicate] at hx
  simp only[List.length_cons,Int.natCast_add,Int.cast_ofNat_Int] at h2
  rcases hx with ⟨_,rfl⟩ |hx
  ·have:(0:Int)≤ts.length:=Int.natCast_nonneg _
   omega
  ·exact nU ts (k+1) lo hi (by omega) (by omega) x hx
theorem aY.HX {k:IntKind} {h h':PT aj} {lo:Nat} {v:Value} {X:List Int} (g:aY k h lo v X) (hk:∀ i B,lo≤i→h.get i=some B→h'.get i=some B):aY k h' lo v X:=by
 rcases g with g | ⟨b,e,yG,rF⟩
 ·exact .inl g
 ·exact .inr ⟨b,e,yG,hk b _ yG rF⟩
theorem yq {h h3 h' h2:PT aj} {N n2 n':Nat} {B:Option aj} {G:aj} {cv hv tv:Value} {xs H T:List Int} (hW:bX h N) (SU:bX h3 n2) (SV:Kept h h3) (r1:Kept h3 h2) (hn:N.succ≤n2) (hn':n2+2≤n')
  (r2:∀ (i:Nat) (B:aj),n2+2≤i→h'.get i=some B→h2.get i=some B) (JZ:aS .u64 h3 cv xs) (q6:aY .i64 h' (n2+2) hv H) (r9:aY .i64 h2 (n'+9) tv T) (r8:h2.get (n'+8)=some G):
  Kept h (h2.set n2 B)∧N≤n2∧(h2.set n2 B).get n2=B∧(h2.set n2 B).get (n'+8)=some G∧aS .u64 (h2.set n2 B) cv xs∧aS .i64 (h2.set n2 B) hv H∧aS .i64 (h2.set n2 B) tv T:=by
 refine⟨(SV.trans r1).set' hW (by omega),by omega,bS,?_,JZ.keep (r1.set' SU (Nat.le_refl _)),(aY.HX q6 fun i B hi e=>?_).gP,(aY.HX r9 fun i B hi e=>?_).gP⟩
 ·rw[bf (by omega)];exact r8
 ·rw[bf (by omega)];exact r2 i B hi e
 ·rw[bf (by omega)];exact e
set_option maxRecDepth 100000 in
set_option maxHeartbeats 4000000 in
theorem J0 {O:Over} (o16:O 65=gy) (o46:O 69=kO) (o44:O 67=kP) (o45:O 68=nT) (o43:∀ a,O 66 a=none) (th sl en bu kd dn t0 t1 t2 t3 t4 t5 lo tr ba:Int) (s:Value) (xs:List Int) (h:PT aj) (N:Nat) (hW:bX h N) (hs:aS .u64 h s xs) (hl:xs.length<1000000000000000):
  cT Tryz.prog O 34 [.agg ⟨[.int .i64 th,.int .i64 sl,.int .u8 en,.int .i64 bu,.int .u8 kd,.int .i64 dn,s,.int .i64 t0,.int .i64 t1,.int .i64 t2,.int .i64 t3,.int .i64 t4,.int .i64 t5,.int .i64 lo,.int .i64 tr,.int .i64 ba]⟩] h N
   fun v h' n'=>(iw th sl en bu kd dn t0 t1 t2 t3 t4 t5 lo tr ba xs=false∧v = .tuple ⟨[.pointer none,.int .i64 2]⟩∧Kept h h')∨(iw th sl en bu kd dn t0 t1 t2 t3 t4 t5 lo tr ba xs=true∧∃ lb cv hv tv gb,v = .tuple ⟨[.pointer (some ⟨lb,0,none⟩),.int .i64 0]⟩∧Kept h h'∧N≤lb∧
    h'.get lb=some (.cells (PT.ofList .leaf 0 [Value.int .i64 th,.int .i64 sl,.int .u8 en,.int .i64 bu,.int .u8 kd,.int .i64 dn,cv,.int .i64 t0,.int .i64 t1,.int .i64 t2,.int .i64 t3,.int .i64 t4,.int .i64 t5,.int .i64 lo,.int .i64 tr,.int .i64 ba,.int .i64 0,.int .i64 (0+sl*1),.int .i64 (0+sl*1+1*b9 en sl bu),.int .i64 (0+sl*1+1*b9 en sl bu+1),.int .i64 (0+sl*1+1*b9 en sl bu+1+lo*3),.int .i64 (0+sl*1+1*b9 en sl bu+1+lo*3+lo*1),.int .i64 (0+sl*1+1*b9 en sl bu+1+lo*3+lo*1+6),.int .i64 (0+sl*1+1*b9 en sl bu+1+lo*3+lo*1+6+((hts 1 [t0,t1,t2,t3,t4,t5]).length:Int)*1),.int .i64 (0+sl*1+1*b9 en sl bu+1+lo*3+lo*1+6+((hts 1 [t0,t1,t2,t3,t4,t5]).length:Int)*1+aZ kd dn xs*7),.int .i64 (dS (0+sl*1+1*b9 en sl bu+1+lo*3+lo*1+6+((hts 1 [t0,t1,t2,t3,t4,t5]).length:Int)*1+aZ kd dn xs*7) (hts 1 [t0,t1,t2,t3,t4,t5])),.slice (some ⟨gb,0,none⟩) 8 (aA+4),hv,tv,.int .i64 (aZ kd dn xs)]) false)∧
    h'.get gb=some (.cells (PT.ofList .leaf 0 [Value.int .u8 1,.int .i64 (0),.int .i64 sl,.int .i64 1,.int .u8 2,.int .i64 (0+sl*1),.int .i64 1,.int .i64 (b9 en sl bu),.int .u8 3,.int .i64 (0+sl*1+1*b9 en sl bu),.int .i64 1,.int .i64 1,.int .u8 4,.int .i64 (0+sl*1+1*b9 en sl bu+1),.int .i64 lo,.int .i64 3,.int .u8 5,.int .i64 (0+sl*1+1*b9 en sl bu+1+lo*3),.int .i64 lo,.int .i64 1,.int .u8 6,.int .i64 (0+sl*1+1*b9 en sl bu+1+lo*3+lo*1),.int .i64 6,.int .i64 1,.int .u8 7,.int .i64 (0+sl*1+1*b9 en sl bu+1+lo*3+lo*1+6),.int .i64 ((hts 1 [t0,t1,t2,t3,t4,t5]).length:Int),.int .i64 1,.int .u8 8,.int .i64 (0+sl*1+1*b9 en sl bu+1+lo*3+lo*1+6+((hts 1 [t0,t1,t2,t3,t4,t5]).length:Int)*1),.int .i64 (aZ kd dn xs),.int .i64 7]) false)∧aS .u64 h' cv xs∧aS .i64 h' hv (hts 1 [t0,t1,t2,t3,t4,t5])∧aS .i64 h' tv (y9 (0+sl*1+1*b9 en sl bu+1+lo*3+lo*1+6+((hts 1 [t0,t1,t2,t3,t4,t5]).length:Int)*1+aZ kd dn xs*7) (hts 1 [t0,t1,t2,t3,t4,t5]))):=by
 have hlt:∀ i B,h.get i=some B→i<N:=fun i B e=>hW.lt e
 have hrd:=fun h' hk z f d ops r K m n=>@qx _ _ h' _ _ hs z f d ops r K m n hk
 obtain⟨a,cap,rfl,-⟩:=hs.len
 refine aB (N:=158) Tryz.func34 rfl rfl ?_
 intro z hP hO hro hN hQ
 repeat' first |simp(maxSteps:=2000000) (disch:=first |omega | (repeat first |assumption |exact Kept.refl _ |refine Kept.set' (by assumption) ?_ ?_ |refine Kept.set (by assumption) ?_ ?_ |omega)) only[go_sem, *,Tryz.results34,gy,qF] | (first |apply fW |apply fS |apply fX |apply fT |apply fU |apply fV |apply fY |apply fZ)<;>intro _ | (first |apply iW |apply iX |apply iY |apply iZ)<;>intro _ |refine aG (by cbv) (by first |rfl |cbv) ?_
 ·exact⟨by simp[iu],hW.kept (Nat.le_refl _)⟩
 ·rename_i Et
  have aeL:=Ay (cI (by simpa using Et)).1
  refine vm ?_ ?_ (by rw[hP,hO];exact(clone _ xs _ _ (hW.set (Nat.le_succ _) (Nat.lt_succ_self _)) (hs.keep (hW.kept (Nat.le_refl _))) (by omega)).wf (hW.set (Nat.le_succ _) (Nat.lt_succ_self _))) ?_
  ·simp(maxSteps:=2000000) (disch:=first |omega | (repeat first |assumption |exact Kept.refl _ |refine Kept.set' (by assumption) ?_ ?_ |refine Kept.set (by assumption) ?_ ?_ |omega)) only[go_sem, *]
  ·simp(maxSteps:=2000000) (disch:=first |omega | (repeat first |assumption |exact Kept.refl _ |refine Kept.set' (by assumption) ?_ ?_ |refine Kept.set (by assumption) ?_ ?_ |omega)) only[go_sem, *]
  ·rintro cv h2 n2 ⟨⟨hk2,JZ⟩,hn2,Du⟩
   obtain⟨ca,cc,rfl,-⟩:=JZ.gP.len
   have e2:=hk2 N _ bS
   have hkh:Kept h h2:=(hW.kept (Nat.le_refl _)).trans hk2
   simp(maxSteps:=2000000) (disch:=first |omega | (repeat first |assumption |exact Kept.refl _ |refine Kept.set' (by assumption) ?_ ?_ |refine Kept.set (by assumption) ?_ ?_ |omega)) only[go_sem, *]
   generalize wA:h2.set N _=h3
   have e3:=xV wA
   have OD:jw .u64 h3 (N+1) n2 (.slice ca xs.length cc) xs:=by rw[←wA];exact JZ.low (Nat.lt_succ_self N)
   have SU:bX h3 n2:=by rw[←wA];exact Du.set (Nat.le_refl _) (by omega)
   have SV:Kept h h3:=by rw[←wA];exact hkh.set' hW (Nat.le_refl _)
   have V0:=OD.gP.look
   have aeM:=fun h' hk z f d ops r K m n=>@dg _ _ _ _ h' V0 z f d ops r K m n hk
   have aeN:=fun h' hk z L f d ops r K m n lo rd wr fs=>@j7 _ _ _ _ h' V0 z L f d ops r K m n lo rd wr fs hk
   have k1:Kept h3 (h3.set n2 (some (.cells (PT.ofList .leaf 0 [Value.int .i64 th,.int .i64 sl,.int .u8 en,.int .i64 bu,.int .u8 kd,.int .i64 dn,.slice ca xs.length cc,.int .i64 t0,.int .i64 t1,.int .i64 t2,.int .i64 t3,.int .i64 t4,.int .i64 t5,.int .i64 lo,.int .i64 tr,.int .i64 ba,.int .i64 0,.int .i64 0,.int .i64 0,.int .i64 0,.int .i64 0,.int .i64 0,.int .i64 0,.int .i64 0,.int .i64 0,.int .i64 0,.slice none 0 0,.slice none 0 0,.slice none 0 0,.int .i64 0]) false))):=SU.kept (Nat.le_refl _)
   have V3:=Et
   obtain⟨c1,⟨c2,c2'⟩,⟨c3,SR⟩,⟨c4,SS⟩,⟨c5,c5'⟩,⟨c6,c7,c8,c9,Gb,Gc⟩,Dv,Eu⟩:=cI (by simpa using V3)
   clear hrd wA hk2 JZ Du e2 hkh h2 hlt
   repeat' first |simp(maxSteps:=2000000) (disch:=first |omega | (repeat first |assumption |exact Kept.refl _ |refine Kept.set' (by assumption) ?_ ?_ |refine Kept.set (by assumption) ?_ ?_ |omega)) only[go_sem, *,Tryz.results34,kP] | (first |apply fW |apply fS |apply fX |apply fT |apply fU |apply fV |apply fY |apply fZ)<;>intro _ | (first |apply iW |apply iX |apply iY |apply iZ)<;>intro _ |refine aG (by cbv) (by first |rfl |cbv) ?_
   have hlen:(hts 1 [t0,t1,t2,t3,t4,t5]).length≤1024:=by simp[hts];omega
   clear k1
   refine cU (fun t m h' n'=>∃ (i:Nat) (H:List Int) (hv:Value),i≤6∧t=6-i∧H++hts (i+1) ([t0,t1,t2,t3,t4,t5].drop i)=hts 1 [t0,t1,t2,t3,t4,t5]∧
    m.n=158∧m.fO=[]∧m.get 1 = .pointer (some ⟨N,0,none⟩)∧m.get 5 = .pointer (some ⟨n2+1,0,none⟩)∧m.get 36 = .agg ⟨[.int .i64 t0,.int .i64 t1,.int .i64 t2,.int .i64 t3,.int .i64 t4,.int .i64 t5]⟩∧m.get 37 = .int .i64 i∧
    Kept h3 h'∧bX h' n'∧n2+2≤n'∧h'.get n2=some (.cells (PT.ofList .leaf 0 [Value.int .i64 th,.int .i64 sl,.int .u8 en,.int .i64 bu,.int .u8 kd,.int .i64 dn,.slice ca xs.length cc,.int .i64 t0,.int .i64 t1,.int .i64 t2,.int .i64 t3,.int .i64 t4,.int .i64 t5,.int .i64 lo,.int .i64 tr,.int .i64 ba,.int .i64 0,.int .i64 0,.int .i64 0,.int .i64 0,.int .i64 0,.int .i64 0,.int .i64 0,.int .i64 0,.int .i64 0,.int .i64 0,.slice none 0 0,hv,.slice none 0 0,.int .i64 (aZ kd dn xs)]) false)∧
    h'.get (n2+1)=some (.cells (PT.ofList .leaf 0 [.pointer (some ⟨n2,0,none⟩)]) false)∧aY .i64 h' (n2+2) hv H) 6 ?_ ?_
   ·refine⟨0,[],.slice none 0 0,by omega,by omega,by simp,?_⟩
    simp(maxSteps:=2000000) (disch:=first |omega | (repeat first |assumption |exact Kept.refl _ |refine Kept.set' (by assumption) ?_ ?_ |refine Kept.set (by assumption) ?_ ?_ |omega)) only[go_sem, *]
    refine⟨?_,?_,Nat.le_refl _,.inl ⟨rfl,rfl⟩⟩
    ·(repeat first |assumption |exact Kept.refl _ |refine Kept.set' (by assumption) ?_ ?_ |omega)
    ·(repeat refine bX.set' (by omega) ?_);first |assumption |exact bX.mono (by assumption) (by omega)
   ·rintro t m h' n' ih ⟨i,H,hv,hi,rfl,hH,m1,m2,m3,m4,m5,m6,q1,q2,q3,q4,q5,q6⟩
    by_cases hi6:i<6
    ·obtain⟨ti,ht1,ht2,J1⟩:∃ ti,([.int .i64 t0,.int .i64 t1,.int .i64 t2,.int .i64 t3,.int .i64 t4,.int .i64 t5]:List Value)[i]? = some (.int .i64 ti)∧[t0,t1,t2,t3,t4,t5].drop i=ti::[t0,t1,t2,t3,t4,t5].drop (i+1)∧0≤ti:=by
      have:i=0∨i=1∨i=2∨i=3∨i=4∨i=5:=by omega
      rcases this with rfl |rfl |rfl |rfl |rfl |rfl
      all_goals exact⟨_,rfl,rfl,by assumption⟩
     rw[ht2,hts] at hH
     have V4:(i:Int)<6:=by omega
     have aa4:H.length+ti.toNat≤1024:=by
      rw[←hH] at hlen
      simp at hlen;omega
     clear ht2
     repeat' first |simp(maxSteps:=2000000) (disch:=first |omega | (repeat first |assumption |exact Kept.refl _ |refine Kept.set' (by assumption) ?_ ?_ |refine Kept.set (by assumption) ?_ ?_ |omega)) only[go_sem, *] | (first |apply fW |apply fS |apply fX |apply fT |apply fU |apply fV |apply fY |apply fZ)<;>intro _ | (first |apply iW |apply iX |apply iY |apply iZ)<;>intro _ |refine aG (by cbv) (by first |rfl |cbv) ?_
     refine cU (fun t m h' n'=>∃ (j:Nat) (X:List Int) (hv:Value),j≤ti.toNat∧t=ti.toNat-j∧X++List.replicate (ti.toNat-j) ((i:Int)+1)=H++List.replicate ti.toNat ((i:Int)+1)∧
      m.n=158∧m.fO=[]∧m.get 1 = .pointer (some ⟨N,0,none⟩)∧m.get 5 = .pointer (some ⟨n2+1,0,none⟩)∧m.get 36 = .agg ⟨[.int .i64 t0,.int .i64 t1,.int .i64 t2,.int .i64 t3,.int .i64 t4,.int .i64 t5]⟩∧m.get 37 = .int .i64 i∧
      m.get 6 = .int .i64 i∧m.get 41 = .int .i64 ti∧m.get 42 = .int .i64 j∧
      Kept h3 h'∧bX h' n'∧n2+2≤n'∧h'.get n2=some (.cells (PT.ofList .leaf 0 [Value.int .i64 th,.int .i64 sl,.int .u8 en,.int .i64 bu,.int .u8 kd,.int .i64 dn,.slice ca xs.length cc,.int .i64 t0,.int .i64 t1,.int .i64 t2,.int .i64 t3,.int .i64 t4,.int .i64 t5,.int .i64 lo,.int .i64 tr,.int .i64 ba,.int .i64 0,.int .i64 0,.int .i64 0,.int .i64 0,.int .i64 0,.int .i64 0,.int .i64 0,.int .i64 0,.int .i64 0,.int .i64 0,.slice none 0 0,hv,.slice none 0 0,.int .i64 (aZ kd dn xs)]) false)∧
      h'.get (n2+1)=some (.cells (PT.ofList .leaf 0 [.pointer (some ⟨n2,0,none⟩)]) false)∧aY .i64 h' (n2+2) hv X) ti.toNat ?_ ?_
     ·refine⟨0,H,hv,by omega,by omega,rfl,?_⟩
      simp(maxSteps:=2000000) (disch:=first |omega | (repeat first |assumption |exact Kept.refl _ |refine Kept.set' (by assumption) ?_ ?_ |refine Kept.set (by assumption) ?_ ?_ |omega)) only[go_sem, *]
     ·clear m1 m2 m3 m4 m5 m6 q1 q2 q3 q4 q5 q6
      rintro t m h' n' ih2 ⟨j,X,hv,hj,rfl,hX,m1,m2,m3,m4,m5,m6,m7,m8,m9,q1,q2,q3,q4,q5,q6⟩
      have A7:X.length+(ti.toNat-j)≤1024:=by
       have:=congrArg List.length hX
       simp at this;omega
      by_cases hjt:j<ti.toNat
      ·have hj7:(j:Int)<ti:=by omega
       clear ih
       have J2:X++[(i:Int)+1]++List.replicate (ti.toNat-(j+1)) ((i:Int)+1)=H++List.replicate ti.toNat ((i:Int)+1):=by
        rw[←hX,show ti.toNat-j=(ti.toNat-(j+1))+1 by omega,List.replicate_succ];simp
       clear hX hH
       rcases q6 with ⟨rfl,hx⟩ | ⟨b,rfl,yG,rF⟩
       ·subst hx
        repeat' first |simp(maxSteps:=2000000) (disch:=first |omega | (repeat first |assumption |exact Kept.refl _ |refine Kept.set' (by assumption) ?_ ?_ |refine Kept.set (by assumption) ?_ ?_ |omega)) only[go_sem, *] | (first |apply fW |apply fS |apply fX |apply fT |apply fU |apply fV |apply fY |apply fZ)<;>intro _ | (first |apply iW |apply iX |apply iY |apply iZ)<;>intro _ |refine aG (by cbv) (by first |rfl |cbv) ?_
        refine ih2 (ti.toNat-(j+1)) _ _ _ (by omega) ⟨j+1,[(i:Int)+1],.slice (some ⟨n'+1,0,none⟩) 1 (aA+1),by omega,by omega,J2,?_⟩
        clear ih2
        simp(maxSteps:=2000000) (disch:=first |omega | (repeat first |assumption |exact Kept.refl _ |refine Kept.set' (by assumption) ?_ ?_ |refine Kept.set (by assumption) ?_ ?_ |omega)) only[go_sem, *]
        refine⟨?_,?_,?_,by omega,.inr ⟨n'+1,rfl,by omega,?_⟩⟩
        ·simp
        ·(repeat first |assumption |exact Kept.refl _ |refine Kept.set' (by assumption) ?_ ?_ |omega)
        ·(repeat refine bX.set' (by omega) ?_);first |assumption |exact bX.mono (by assumption) (by omega)
        ·simp(disch:=omega) only[go_sem]
       ·have TG:=q2.lt rF
        repeat' first |simp(maxSteps:=2000000) (disch:=first |omega | (repeat first |assumption |exact Kept.refl _ |refine Kept.set' (by assumption) ?_ ?_ |refine Kept.set (by assumption) ?_ ?_ |omega)) only[go_sem, *] | (first |apply fW |apply fS |apply fX |apply fT |apply fU |apply fV |apply fY |apply fZ)<;>intro _ | (first |apply iW |apply iX |apply iY |apply iZ)<;>intro _ |refine aG (by cbv) (by first |rfl |cbv) ?_
        refine ih2 (ti.toNat-(j+1)) _ _ _ (by omega) ⟨j+1,X++[(i:Int)+1],.slice (some ⟨n'+1,0,none⟩) (X.length+1) (aA+1),by omega,by omega,J2,?_⟩
        clear ih2
        simp(maxSteps:=2000000) (disch:=first |omega | (repeat first |assumption |exact Kept.refl _ |refine Kept.set' (by assumption) ?_ ?_ |refine Kept.set (by assumption) ?_ ?_ |omega)) only[go_sem, *]
        refine⟨?_,?_,?_,by omega,.inr ⟨n'+1,?_,by omega,?_⟩⟩
        ·simp
        ·(repeat first |assumption |exact Kept.refl _ |refine Kept.set' (by assumption) ?_ ?_ |omega)
        ·(repeat refine bX.set' (by omega) ?_);first |assumption |exact bX.mono (by assumption) (by omega)
        ·simp
        ·simp(disch:=omega) only[go_sem,List.map_append]
      ·have hj7: ¬ (j:Int)<ti:=by omega
       clear ih2
       have J2:X=H++List.replicate ti.toNat ((i:Int)+1):=by
        rw[←hX,show ti.toNat-j=0 by omega];simp
       rw[←List.append_assoc,←J2] at hH
       clear hX J2
       repeat' first |simp(maxSteps:=2000000) (disch:=first |omega | (repeat first |assumption |exact Kept.refl _ |refine Kept.set' (by assumption) ?_ ?_ |refine Kept.set (by assumption) ?_ ?_ |omega)) only[go_sem, *] | (first |apply fW |apply fS |apply fX |apply fT |apply fU |apply fV |apply fY |apply fZ)<;>intro _ | (first |apply iW |apply iX |apply iY |apply iZ)<;>intro _ |refine aG (by cbv) (by first |rfl |cbv) ?_
       refine ih (6-(i+1)) _ _ _ (by omega) ⟨i+1,X,hv,by omega,by omega,by simpa using hH,?_⟩
       clear ih
       simp(maxSteps:=2000000) (disch:=first |omega | (repeat first |assumption |exact Kept.refl _ |refine Kept.set' (by assumption) ?_ ?_ |refine Kept.set (by assumption) ?_ ?_ |omega)) only[go_sem, *]
       all_goals simp
    ·have V4: ¬ (i:Int)<6:=by omega
     obtain rfl:i=6:=by omega
     have hH2:H=hts 1 [t0,t1,t2,t3,t4,t5]:=by simpa [hts] using hH
     subst hH2
     clear ih hH hi hi6
     have hHb:∀ i,i<(hts 1 [t0,t1,t2,t3,t4,t5]).length→1≤(hts 1 [t0,t1,t2,t3,t4,t5]).getD i 0∧(hts 1 [t0,t1,t2,t3,t4,t5]).getD i 0≤6:=fun i hi=>by
      refine nU [t0,t1,t2,t3,t4,t5] 1 1 6 (by omega) (by simp) _ ?_
      simp[List.getD,hi]
     generalize hts 1 [t0,t1,t2,t3,t4,t5]=H at*
     have HY:H.length≤1024:=hlen
     obtain⟨ha,hc,rfl,-⟩:=q6.gP.len
     have e4:=q1 N _ e3
     have d1 : -1000≤sl:=by omega
     have d2:sl≤1000:=by omega
     have d3 : -1000≤bu:=by omega
     have d4:bu≤1000:=by omega
     obtain⟨d5,d6⟩:=jx (en:=en) c3 SR c4 SS
     obtain⟨d7,d8⟩:=mO c1
     repeat' first |simp(maxSteps:=2000000) (disch:=first |omega | (repeat first |assumption |exact Kept.refl _ |refine Kept.set' (by assumption) ?_ ?_ |refine Kept.set (by assumption) ?_ ?_ |omega)) only[go_sem, *,nT,kO] | (first |apply fW |apply fS |apply fX |apply fT |apply fU |apply fV |apply fY |apply fZ)<;>intro _ | (first |apply iW |apply iX |apply iY |apply iZ)<;>intro _ |refine aG (by cbv) (by first |rfl |cbv) ?_
     refine cU (fun t m h2 n3=>∃ (i:Nat) (T:List Int) (tv:Value) (A:Int),i≤H.length∧t=H.length-i∧T++y9 A (H.drop i)=y9 (0+sl*1+1*b9 en sl bu+1+lo*3+lo*1+6+H.length*1+aZ kd dn xs*7) H∧dS A (H.drop i)=dS (0+sl*1+1*b9 en sl bu+1+lo*3+lo*1+6+H.length*1+aZ kd dn xs*7) H∧0≤A∧A≤2000+11*i∧T.length≤i∧i≤T.length∧
      m.n=158∧m.fO=[]∧m.get 5 = .pointer (some ⟨n2+1,0,none⟩)∧m.get 8 = .pointer (some ⟨n',0,none⟩)∧m.get 131 = .slice ha H.length hc∧m.get 132 = .int .i64 H.length∧m.get 133 = .int .i64 i∧
      Kept h3 h2∧(∀ i B,n2+2≤i→h'.get i=some B→h2.get i=some B)∧bX h2 n3∧n'+9≤n3∧h2.get n2=some (.cells (PT.ofList .leaf 0 [Value.int .i64 th,.int .i64 sl,.int .u8 en,.int .i64 bu,.int .u8 kd,.int .i64 dn,.slice ca xs.length cc,.int .i64 t0,.int .i64 t1,.int .i64 t2,.int .i64 t3,.int .i64 t4,.int .i64 t5,.int .i64 lo,.int .i64 tr,.int .i64 ba,.int .i64 0,.int .i64 (0+sl*1),.int .i64 (0+sl*1+1*b9 en sl bu),.int .i64 (0+sl*1+1*b9 en sl bu+1),.int .i64 (0+sl*1+1*b9 en sl bu+1+lo*3),.int .i64 (0+sl*1+1*b9 en sl bu+1+lo*3+lo*1),.int .i64 (0+sl*1+1*b9 en sl bu+1+lo*3+lo*1+6),.int .i64 (0+sl*1+1*b9 en sl bu+1+lo*3+lo*1+6+H.length*1),.int .i64 (0+sl*1+1*b9 en sl bu+1+lo*3+lo*1+6+H.length*1+aZ kd dn xs*7),.int .i64 0,.slice (some ⟨n'+8,0,none⟩) 8 (aA+4),.slice ha H.length hc,tv,.int .i64 (aZ kd dn xs)]) false)∧
      h2.get (n2+1)=some (.cells (PT.ofList .leaf 0 [.pointer (some ⟨n2,0,none⟩)]) false)∧h2.get n'=some (.cells (PT.ofList .leaf 0 [.int .i64 A]) false)∧h2.get (n'+8)=some (.cells (PT.ofList .leaf 0 [Value.int .u8 1,.int .i64 (0),.int .i64 sl,.int .i64 1,.int .u8 2,.int .i64 (0+sl*1),.int .i64 1,.int .i64 (b9 en sl bu),.int .u8 3,.int .i64 (0+sl*1+1*b9 en sl bu),.int .i64 1,.int .i64 1,.int .u8 4,.int .i64 (0+sl*1+1*b9 en sl bu+1),.int .i64 lo,.int .i64 3,.int .u8 5,.int .i64 (0+sl*1+1*b9 en sl bu+1+lo*3),.int .i64 lo,.int .i64 1,.int .u8 6,.int .i64 (0+sl*1+1*b9 en sl bu+1+lo*3+lo*1),.int .i64 6,.int .i64 1,.int .u8 7,.int .i64 (0+sl*1+1*b9 en sl bu+1+lo*3+lo*1+6),.int .i64 H.length,.int .i64 1,.int .u8 8,.int .i64 (0+sl*1+1*b9 en sl bu+1+lo*3+lo*1+6+H.length*1),.int .i64 (aZ kd dn xs),.int .i64 7]) false)∧
      aY .i64 h2 (n'+9) tv T) H.length ?_ ?_
     ·refine⟨0,[],.slice none 0 0,_,by omega,by omega,rfl,rfl,?_⟩
      simp(maxSteps:=2000000) (disch:=first |omega | (repeat first |assumption |exact Kept.refl _ |refine Kept.set' (by assumption) ?_ ?_ |refine Kept.set (by assumption) ?_ ?_ |omega)) only[go_sem, *,Nat.le_refl]
      refine⟨by omega,by omega,?_,?_,?_,.inl ⟨rfl,rfl⟩⟩
      ·(repeat first |assumption |exact Kept.refl _ |refine Kept.set' (by assumption) ?_ ?_ |omega)
      ·intro i B hi e
       have:=q2.lt e
       simp(disch:=omega) only[bf]
       exact e
      ·(repeat refine bX.set' (by omega) ?_);first |assumption |exact bX.mono (by assumption) (by omega)
     ·clear m1 m2 m3 m4 m5 m6 q1 q4 q5
      rintro t m h2 n3 ih ⟨i,T,tv,A,hi,rfl,hT,hE,Ew,OE,HZ,aeT,m1,m2,m3,m4,m5,m6,m7,r1,r2,r3,r4,r5,r6,r7,r8,r9⟩
      by_cases hlt:i<H.length
      ·rcases q6 with ⟨_,rfl⟩ | ⟨b,e,yG,rF⟩
       ·simp at hlt
       ·cases e
        have TG:=q2.lt rF
        have hb4:=r2 b _ yG rF
        obtain⟨hx1,hx2⟩:=hHb i hlt
        have hLi:(H.map (Value.int .i64))[i]? = some (.int .i64 (H.getD i 0)):=by simp[List.getElem?_map,hlt,List.getD]
        rw[Dt hlt] at hT
        rw[vB hlt] at hE
        have V4:(i:Int)<H.length:=by omega
        clear hHb
        generalize H.getD i 0=x at*
        have y_:T++[A]++y9 (A+(5+x)) (H.drop (i+1))=y9 (0+sl*1+1*b9 en sl bu+1+lo*3+lo*1+6+H.length*1+aZ kd dn xs*7) H:=by simpa using hT
        clear hT
        rcases r9 with ⟨rfl,hx0⟩ | ⟨tb,rfl,ht1,ht2⟩
        ·subst hx0
         repeat' first |simp(maxSteps:=2000000) (disch:=first |omega | (repeat first |assumption |exact Kept.refl _ |refine Kept.set' (by assumption) ?_ ?_ |refine Kept.set (by assumption) ?_ ?_ |omega)) only[go_sem, *] | (first |apply fW |apply fS |apply fX |apply fT |apply fU |apply fV |apply fY |apply fZ)<;>intro _ | (first |apply iW |apply iX |apply iY |apply iZ)<;>intro _ |refine aG (by cbv) (by first |rfl |cbv) ?_
         refine ih (H.length-(i+1)) _ _ _ (by omega) ⟨i+1,[A],.slice (some ⟨n3+1,0,none⟩) 1 (aA+1),A+(5+x),by omega,by omega,y_,hE,by omega,by omega,by simp only[List.length_cons,List.length_nil] at *;omega,by simp only[List.length_cons,List.length_nil] at *;omega,?_⟩
         clear ih
         simp(maxSteps:=2000000) (disch:=first |omega | (repeat first |assumption |exact Kept.refl _ |refine Kept.set' (by assumption) ?_ ?_ |refine Kept.set (by assumption) ?_ ?_ |omega)) only[go_sem, *]
         refine⟨?_,?_,?_,?_,by omega,.inr ⟨n3+1,rfl,by omega,?_⟩⟩
         ·simp
         ·(repeat first |assumption |exact Kept.refl _ |refine Kept.set' (by assumption) ?_ ?_ |omega)
         ·intro j B hj e
          have:=q2.lt e
          simp(disch:=omega) only[bf]
          exact r2 j B hj e
         ·(repeat refine bX.set' (by omega) ?_);first |assumption |exact bX.mono (by assumption) (by omega)
         ·simp(disch:=omega) only[go_sem]
        ·have J1:=r3.lt ht2
         repeat' first |simp(maxSteps:=2000000) (disch:=first |omega | (repeat first |assumption |exact Kept.refl _ |refine Kept.set' (by assumption) ?_ ?_ |refine Kept.set (by assumption) ?_ ?_ |omega)) only[go_sem, *] | (first |apply fW |apply fS |apply fX |apply fT |apply fU |apply fV |apply fY |apply fZ)<;>intro _ | (first |apply iW |apply iX |apply iY |apply iZ)<;>intro _ |refine aG (by cbv) (by first |rfl |cbv) ?_
         refine ih (H.length-(i+1)) _ _ _ (by omega) ⟨i+1,T++[A],.slice (some ⟨n3+1,0,none⟩) (T.length+1) (aA+1),A+(5+x),by omega,by omega,y_,hE,by omega,by omega,by simp;omega,by simp;omega,?_⟩
         clear ih
         simp(maxSteps:=2000000) (disch:=first |omega | (repeat first |assumption |exact Kept.refl _ |refine Kept.set' (by assumption) ?_ ?_ |refine Kept.set (by assumption) ?_ ?_ |omega)) only[go_sem, *]
         refine⟨?_,?_,?_,?_,by omega,.inr ⟨n3+1,?_,by omega,?_⟩⟩
         ·simp
         ·(repeat first |assumption |exact Kept.refl _ |refine Kept.set' (by assumption) ?_ ?_ |omega)
         ·intro j B hj e
          have:=q2.lt e
          simp(disch:=omega) only[bf]
          exact r2 j B hj e
         ·(repeat refine bX.set' (by omega) ?_);first |assumption |exact bX.mono (by assumption) (by omega)
         ·simp
         ·simp(disch:=omega) only[go_sem,List.map_append]
      ·have V4: ¬ (i:Int)<H.length:=by omega
       clear ih
       rw[List.drop_eq_nil_of_le (by omega)] at hT hE
       simp only[y9,dS,List.append_nil] at hT hE
       subst hT hE
       repeat' first |simp(maxSteps:=2000000) (disch:=first |omega | (repeat first |assumption |exact Kept.refl _ |refine Kept.set' (by assumption) ?_ ?_ |refine Kept.set (by assumption) ?_ ?_ |omega)) only[go_sem, *,Tryz.results34] | (first |apply fW |apply fS |apply fX |apply fT |apply fU |apply fV |apply fY |apply fZ)<;>intro _ | (first |apply iW |apply iX |apply iY |apply iZ)<;>intro _ |refine aG (by cbv) (by first |rfl |cbv) ?_
       exact⟨n2,_,_,_,n'+8,rfl,yq hW SU SV r1 hn2 q3 r2 OD.gP q6 r9 r8⟩
end Go.Proofs.YtfhmopghjoeamaaGreat
