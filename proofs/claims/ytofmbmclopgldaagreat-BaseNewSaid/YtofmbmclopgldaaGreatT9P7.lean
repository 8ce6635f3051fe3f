/-
  A part of the proof: contracts of inner functions.
-/
import Derived.Test.YtofmbmclopgldaaGreatT9P5
import Derived.Test.YtofmbmclopgldaaGreatT9C
set_option linter.unusedVariables false
set_option linter.unusedSimpArgs false
namespace Go.Proofs.YtofmbmclopgldaaGreat
open Go.Am
def iV:List Value→Option (AP Value)
 | [.agg ⟨[.int .i64 th,.int .i64 sl,.int .u8 en,.int .i64 bu,.int .u8 kd,.int .i64 dn,s,.int .i64 t0,.int .i64 t1,.int .i64 t2,.int .i64 t3,.int .i64 t4,.int .i64 t5,.int .i64 lo,.int .i64 tr,.int .i64 ba]⟩]=>
  some ((dh .u64 s).bind fun xs=>cond (decide (xs.length<1000000000000000)) (.pure (.int .i64 (cN (gB th sl en bu kd dn t0 t1 t2 t3 t4 t5 lo tr ba xs)))) (.fail ""))
 | _=>none
theorem DX:bf Tryz.prog 108 iV:=by
 refine bK ab7 bA ?_
 intro args m hm
 unfold iV at hm
 split at hm
 ·rename_i th sl en bu kd dn s t0 t1 t2 t3 t4 t5 lo tr ba
  simp only[Option.some.injEq] at hm
  subst hm
  refine⟨fun h v=>∃ xs,aW .u64 h s xs∧xs.length<1000000000000000∧v = .int .i64 (cN (gB th sl en bu kd dn t0 t1 t2 t3 t4 t5 lo tr ba xs)),fun h n v s' hR e=>?_,fun h N v hlt hv=>?_⟩
  ·obtain⟨xs,hx,e⟩:=gx hR e
   obtain⟨hl,e⟩:=cU e
   obtain⟨h1,rfl⟩:=run_pure e
   exact⟨h1,.int _ _,xs,hx,of_decide_eq_true hl,rfl⟩
  ·obtain⟨xs,hx,hl,rfl⟩:=hv
   exact Hr th sl en bu kd dn t0 t1 t2 t3 t4 t5 lo tr ba s xs h N hlt hx hl
 ·simp at hm
theorem cO {th sl en bu kd dn t0 t1 t2 t3 t4 t5 lo tr ba:Int} {xs:List Int} (h:gB th sl en bu kd dn t0 t1 t2 t3 t4 t5 lo tr ba xs=true):
  cI kd dn xs=true∧(1≤en∧en≤3)∧(1≤sl∧sl≤64)∧(0≤bu∧bu≤16)∧(1≤lo∧lo≤16)∧(0≤t0∧0≤t1∧0≤t2∧0≤t3∧0≤t4∧0≤t5)∧t0+t1+t2+t3+t4+t5≤1024∧(en=3→1≤bu):=by
 simp only[gB,Bool.and_eq_true,Bool.not_eq_true',Bool.or_eq_false_iff,decide_eq_true_eq,decide_eq_false_iff_not] at h
 obtain⟨⟨⟨⟨⟨⟨⟨⟨⟨⟨⟨⟨⟨⟨a0,a1⟩,a2⟩,a3⟩,a4⟩,a5⟩,a6⟩,a7⟩,a8⟩,a9⟩,Pc⟩,RB⟩,ZR⟩,a13⟩,a14⟩:=h
 refine⟨RB,⟨by omega,by omega⟩,a7,?_,ZR,⟨by omega,by omega,by omega,by omega,by omega,by omega⟩,by omega,fun e=>?_⟩
 ·split at Pc<;>simp at Pc<;>omega
 ·rw[if_pos e] at Pc;simp at Pc;omega
theorem oS {kd dn:Int} {xs:List Int} (h:cI kd dn xs=true):1≤a_ kd dn xs∧a_ kd dn xs≤64:=by
 unfold cI at h
 unfold a_
 split at h
 ·rename_i hk;subst hk;simp
 ·split at h
  ·rename_i hk;subst hk;simp at h ⊢;omega
  ·split at h
   ·rename_i hk;subst hk;simp at h ⊢;omega
   ·simp at h
theorem kM {en sl bu:Int} (c3:1≤sl) (ZS:sl≤64) (c4:0≤bu) (ZT:bu≤16):0≤cJ en sl bu∧cJ en sl bu≤200:=by
 unfold cJ
 split
 ·omega
 ·split
  ·omega
  ·split<;>omega
theorem DY {kd dn:Int} {xs:List Int} (h:cI kd dn xs=true):xs.length<64:=by
 unfold cI at h
 split at h
 ·simp at h;rw[h.2];simp
 ·split at h
  ·simp at h;rw[h.2];simp
  ·split at h
   ·simp at h;omega
   ·simp at h
def hts:Int→List Int→List Int
 | _,[]=>[]
 |k,t::ts=>List.replicate t.toNat k++hts (k+1) ts
def Cp:Int→List Int→List Int
 | _,[]=>[]
 |a,x::r=>a::Cp (a+(5+x)) r
def eZ:Int→List Int→Int
 |a,[]=>a
 |a,x::r=>eZ (a+(5+x)) r
theorem Hs {a:Int} {H:List Int} {i:Nat} (hi:i<H.length):Cp a (H.drop i)=a::Cp (a+(5+H.getD i 0)) (H.drop (i+1)):=by
 rw[List.drop_eq_getElem_cons hi,Cp];simp[List.getD,hi]
theorem yV {a:Int} {H:List Int} {i:Nat} (hi:i<H.length):eZ a (H.drop i)=eZ (a+(5+H.getD i 0)) (H.drop (i+1)):=by
 rw[List.drop_eq_getElem_cons hi,eZ];simp[List.getD,hi]
theorem tH:∀ (H:List Int) (a:Int),(Cp a H).length=H.length
 | [],a=>rfl
 |x::r,a=>by simp[Cp,tH r]
theorem pX:∀ (ts:List Int) (k lo hi:Int),lo≤k→k+ts.length≤hi+1→∀ x∈hts k ts,lo≤x∧x≤hi
 | [],k,lo,hi,h1,h2,x,hx=>by simp[hts] at hx
 |t::ts,k,lo,hi,h1,h2,x,hx=>by
  simp only[hts,List.mem_append,List.mem_replicate] at hx
  simp only[List.length_cons,Int.natCast_add,Int.cast_ofNat_Int] at h2
  rcases hx with ⟨_,rfl⟩ |hx
  ·have:(0:Int)≤ts.length:=Int.natCast_nonneg _
   omega
  ·exact pX ts (k+1) lo hi (by omega) (by omega) x hx
theorem bB.MA {k:IntKind} {h h':PT ak} {lo:Nat} {v:Value} {X:List Int} (g:bB k h lo v X) (hk:∀ i B,lo≤i→h.get i=some B→h'.get i=some B):bB k h' lo v X:=by
 rcases g with g | ⟨b,e,vC,uC⟩
 ·exact .inl g
 ·exact .inr ⟨b,e,vC,hk b _ vC uC⟩
theorem Bl {h h3 h' h2:PT ak} {N n2 n':Nat} {B:Option ak} {G:ak} {cv hv tv:Value} {xs H T:List Int} (hW:bL h N) (ZU:bL h3 n2) (ZV:Kept h h3) (r1:Kept h3 h2) (hn:N.succ≤n2) (hn':n2+2≤n')
  (r2:∀ (i:Nat) (B:ak),n2+2≤i→h'.get i=some B→h2.get i=some B) (Pd:aW .u64 h3 cv xs) (q6:bB .i64 h' (n2+2) hv H) (r9:bB .i64 h2 (n'+9) tv T) (r8:h2.get (n'+8)=some G):
  Kept h (h2.set n2 B)∧N≤n2∧(h2.set n2 B).get n2=B∧(h2.set n2 B).get (n'+8)=some G∧aW .u64 (h2.set n2 B) cv xs∧aW .i64 (h2.set n2 B) hv H∧aW .i64 (h2.set n2 B) tv T:=by
 refine⟨(ZV.trans r1).set' hW (by omega),by omega,bC,?_,Pd.keep (r1.set' ZU (Nat.le_refl _)),(bB.MA q6 fun i B hi e=>?_).kF,(bB.MA r9 fun i B hi e=>?_).kF⟩
 ·rw[aE (by omega)];exact r8
 ·rw[aE (by omega)];exact r2 i B hi e
 ·rw[aE (by omega)];exact e
set_option maxRecDepth 100000 in
set_option maxHeartbeats 4000000 in
theorem Pe {O:Over} (o16:O 108=iV) (o46:O 111=mV) (o44:O 78=mW) (o45:O 110=pW) (o43:∀ a,O 109 a=none) (th sl en bu kd dn t0 t1 t2 t3 t4 t5 lo tr ba:Int) (s:Value) (xs:List Int) (h:PT ak) (N:Nat) (hW:bL h N) (hs:aW .u64 h s xs) (hl:xs.length<1000000000000000):
  cW Tryz.prog O 45 [.agg ⟨[.int .i64 th,.int .i64 sl,.int .u8 en,.int .i64 bu,.int .u8 kd,.int .i64 dn,s,.int .i64 t0,.int .i64 t1,.int .i64 t2,.int .i64 t3,.int .i64 t4,.int .i64 t5,.int .i64 lo,.int .i64 tr,.int .i64 ba]⟩] h N
   fun v h' n'=>(gB th sl en bu kd dn t0 t1 t2 t3 t4 t5 lo tr ba xs=false∧v = .tuple ⟨[.pointer none,.int .i64 2]⟩∧Kept h h')∨(gB th sl en bu kd dn t0 t1 t2 t3 t4 t5 lo tr ba xs=true∧∃ lb cv hv tv gb,v = .tuple ⟨[.pointer (some ⟨lb,0,none⟩),.int .i64 0]⟩∧Kept h h'∧N≤lb∧
    h'.get lb=some (.cells (PT.ofList .leaf 0 [Value.int .i64 th,.int .i64 sl,.int .u8 en,.int .i64 bu,.int .u8 kd,.int .i64 dn,cv,.int .i64 t0,.int .i64 t1,.int .i64 t2,.int .i64 t3,.int .i64 t4,.int .i64 t5,.int .i64 lo,.int .i64 tr,.int .i64 ba,.int .i64 0,.int .i64 (0+sl*1),.int .i64 (0+sl*1+1*cJ en sl bu),.int .i64 (0+sl*1+1*cJ en sl bu+1),.int .i64 (0+sl*1+1*cJ en sl bu+1+lo*3),.int .i64 (0+sl*1+1*cJ en sl bu+1+lo*3+lo*1),.int .i64 (0+sl*1+1*cJ en sl bu+1+lo*3+lo*1+6),.int .i64 (0+sl*1+1*cJ en sl bu+1+lo*3+lo*1+6+((hts 1 [t0,t1,t2,t3,t4,t5]).length:Int)*1),.int .i64 (0+sl*1+1*cJ en sl bu+1+lo*3+lo*1+6+((hts 1 [t0,t1,t2,t3,t4,t5]).length:Int)*1+a_ kd dn xs*7),.int .i64 (eZ (0+sl*1+1*cJ en sl bu+1+lo*3+lo*1+6+((hts 1 [t0,t1,t2,t3,t4,t5]).length:Int)*1+a_ kd dn xs*7) (hts 1 [t0,t1,t2,t3,t4,t5])),.slice (some ⟨gb,0,none⟩) 8 (aB+4),hv,tv,.int .i64 (a_ kd dn xs)]) false)∧
    h'.get gb=some (.cells (PT.ofList .leaf 0 [Value.int .u8 1,.int .i64 (0),.int .i64 sl,.int .i64 1,.int .u8 2,.int .i64 (0+sl*1),.int .i64 1,.int .i64 (cJ en sl bu),.int .u8 3,.int .i64 (0+sl*1+1*cJ en sl bu),.int .i64 1,.int .i64 1,.int .u8 4,.int .i64 (0+sl*1+1*cJ en sl bu+1),.int .i64 lo,.int .i64 3,.int .u8 5,.int .i64 (0+sl*1+1*cJ en sl bu+1+lo*3),.int .i64 lo,.int .i64 1,.int .u8 6,.int .i64 (0+sl*1+1*cJ en sl bu+1+lo*3+lo*1),.int .i64 6,.int .i64 1,.int .u8 7,.int .i64 (0+sl*1+1*cJ en sl bu+1+lo*3+lo*1+6),.int .i64 ((hts 1 [t0,t1,t2,t3,t4,t5]).length:Int),.int .i64 1,.int .u8 8,.int .i64 (0+sl*1+1*cJ en sl bu+1+lo*3+lo*1+6+((hts 1 [t0,t1,t2,t3,t4,t5]).length:Int)*1),.int .i64 (a_ kd dn xs),.int .i64 7]) false)∧aW .u64 h' cv xs∧aW .i64 h' hv (hts 1 [t0,t1,t2,t3,t4,t5])∧aW .i64 h' tv (Cp (0+sl*1+1*cJ en sl bu+1+lo*3+lo*1+6+((hts 1 [t0,t1,t2,t3,t4,t5]).length:Int)*1+a_ kd dn xs*7) (hts 1 [t0,t1,t2,t3,t4,t5]))):=by
 have hlt:∀ i B,h.get i=some B→i<N:=fun i B e=>hW.lt e
 have hrd:=fun h' hk z f d ops r K m n=>@ij _ _ h' _ _ hs z f d ops r K m n hk
 obtain⟨a,cap,rfl,-⟩:=hs.len
 refine ay (N:=158) Tryz.func45 rfl rfl ?_
 intro z hP hO hro hN hQ
 repeat' first |simp(maxSteps:=2000000) (disch:=first |omega | (repeat first |assumption |exact Kept.refl _ |refine Kept.set' (by assumption) ?_ ?_ |refine Kept.set (by assumption) ?_ ?_ |omega)) only[go_sem, *,Tryz.results45,iV,l8] | (first |apply fZ |apply fV |apply f_ |apply fW |apply fX |apply fY |apply ga |apply gd)<;>intro _ | (first |apply iz |apply iA |apply iB |apply iC)<;>intro _ |refine aK (by cbv) (by first |rfl |cbv) ?_
 ·exact⟨by simp[cN],hW.kept (Nat.le_refl _)⟩
 ·rename_i IX
  have amb:=DY (cO (by simpa using IX)).1
  refine yA ?_ ?_ (by rw[hP,hO];exact(clone _ xs _ _ (hW.set (Nat.le_succ _) (Nat.lt_succ_self _)) (hs.keep (hW.kept (Nat.le_refl _))) (by omega)).wf (hW.set (Nat.le_succ _) (Nat.lt_succ_self _))) ?_
  ·simp(maxSteps:=2000000) (disch:=first |omega | (repeat first |assumption |exact Kept.refl _ |refine Kept.set' (by assumption) ?_ ?_ |refine Kept.set (by assumption) ?_ ?_ |omega)) only[go_sem, *]
  ·simp(maxSteps:=2000000) (disch:=first |omega | (repeat first |assumption |exact Kept.refl _ |refine Kept.set' (by assumption) ?_ ?_ |refine Kept.set (by assumption) ?_ ?_ |omega)) only[go_sem, *]
  ·rintro cv h2 n2 ⟨⟨hk2,Pd⟩,hn2,Ht⟩
   obtain⟨ca,cc,rfl,-⟩:=Pd.kF.len
   have e2:=hk2 N _ bC
   have hkh:Kept h h2:=(hW.kept (Nat.le_refl _)).trans hk2
   simp(maxSteps:=2000000) (disch:=first |omega | (repeat first |assumption |exact Kept.refl _ |refine Kept.set' (by assumption) ?_ ?_ |refine Kept.set (by assumption) ?_ ?_ |omega)) only[go_sem, *]
   generalize zL:h2.set N _=h3
   have e3:=sS zL
   have Um:jA .u64 h3 (N+1) n2 (.slice ca xs.length cc) xs:=by rw[←zL];exact Pd.low (Nat.lt_succ_self N)
   have ZU:bL h3 n2:=by rw[←zL];exact Ht.set (Nat.le_refl _) (by omega)
   have ZV:Kept h h3:=by rw[←zL];exact hkh.set' hW (Nat.le_refl _)
   have hl3:=Um.kF.look
   have amc:=fun h' hk z f d ops r K m n=>@cE _ _ _ _ h' hl3 z f d ops r K m n hk
   have amd:=fun h' hk z L f d ops r K m n lo rd wr fs=>@lV _ _ _ _ h' hl3 z L f d ops r K m n lo rd wr fs hk
   have k1:Kept h3 (h3.set n2 (some (.cells (PT.ofList .leaf 0 [Value.int .i64 th,.int .i64 sl,.int .u8 en,.int .i64 bu,.int .u8 kd,.int .i64 dn,.slice ca xs.length cc,.int .i64 t0,.int .i64 t1,.int .i64 t2,.int .i64 t3,.int .i64 t4,.int .i64 t5,.int .i64 lo,.int .i64 tr,.int .i64 ba,.int .i64 0,.int .i64 0,.int .i64 0,.int .i64 0,.int .i64 0,.int .i64 0,.int .i64 0,.int .i64 0,.int .i64 0,.int .i64 0,.slice none 0 0,.slice none 0 0,.slice none 0 0,.int .i64 0]) false))):=ZU.kept (Nat.le_refl _)
   have acd:=IX
   obtain⟨c1,⟨c2,c2'⟩,⟨c3,ZS⟩,⟨c4,ZT⟩,⟨c5,c5'⟩,⟨c6,c7,c8,c9,KD,KE⟩,Hu,IY⟩:=cO (by simpa using acd)
   clear hrd zL hk2 Pd Ht e2 hkh h2 hlt
   repeat' first |simp(maxSteps:=2000000) (disch:=first |omega | (repeat first |assumption |exact Kept.refl _ |refine Kept.set' (by assumption) ?_ ?_ |refine Kept.set (by assumption) ?_ ?_ |omega)) only[go_sem, *,Tryz.results45,mW] | (first |apply fZ |apply fV |apply f_ |apply fW |apply fX |apply fY |apply ga |apply gd)<;>intro _ | (first |apply iz |apply iA |apply iB |apply iC)<;>intro _ |refine aK (by cbv) (by first |rfl |cbv) ?_
   have hlen:(hts 1 [t0,t1,t2,t3,t4,t5]).length≤1024:=by simp[hts];omega
   clear k1
   refine bY (fun t m h' n'=>∃ (i:Nat) (H:List Int) (hv:Value),i≤6∧t=6-i∧H++hts (i+1) ([t0,t1,t2,t3,t4,t5].drop i)=hts 1 [t0,t1,t2,t3,t4,t5]∧
    m.n=158∧m.eS=[]∧m.get 1 = .pointer (some ⟨N,0,none⟩)∧m.get 5 = .pointer (some ⟨n2+1,0,none⟩)∧m.get 36 = .agg ⟨[.int .i64 t0,.int .i64 t1,.int .i64 t2,.int .i64 t3,.int .i64 t4,.int .i64 t5]⟩∧m.get 37 = .int .i64 i∧
    Kept h3 h'∧bL h' n'∧n2+2≤n'∧h'.get n2=some (.cells (PT.ofList .leaf 0 [Value.int .i64 th,.int .i64 sl,.int .u8 en,.int .i64 bu,.int .u8 kd,.int .i64 dn,.slice ca xs.length cc,.int .i64 t0,.int .i64 t1,.int .i64 t2,.int .i64 t3,.int .i64 t4,.int .i64 t5,.int .i64 lo,.int .i64 tr,.int .i64 ba,.int .i64 0,.int .i64 0,.int .i64 0,.int .i64 0,.int .i64 0,.int .i64 0,.int .i64 0,.int .i64 0,.int .i64 0,.int .i64 0,.slice none 0 0,hv,.slice none 0 0,.int .i64 (a_ kd dn xs)]) false)∧
    h'.get (n2+1)=some (.cells (PT.ofList .leaf 0 [.pointer (some ⟨n2,0,none⟩)]) false)∧bB .i64 h' (n2+2) hv H) 6 ?_ ?_
   ·refine⟨0,[],.slice none 0 0,by omega,by omega,by simp,?_⟩
    simp(maxSteps:=2000000) (disch:=first |omega | (repeat first |assumption |exact Kept.refl _ |refine Kept.set' (by assumption) ?_ ?_ |refine Kept.set (by assumption) ?_ ?_ |omega)) only[go_sem, *]
    refine⟨?_,?_,Nat.le_refl _,.inl ⟨rfl,rfl⟩⟩
    ·(repeat first |assumption |exact Kept.refl _ |refine Kept.set' (by assumption) ?_ ?_ |omega)
    ·(repeat refine bL.set' (by omega) ?_);first |assumption |exact bL.mono (by assumption) (by omega)
   ·rintro t m h' n' ih ⟨i,H,hv,hi,rfl,hH,m1,m2,m3,m4,m5,m6,q1,q2,q3,q4,q5,q6⟩
    by_cases hi6:i<6
    ·obtain⟨ti,ht1,ht2,Un⟩:∃ ti,([.int .i64 t0,.int .i64 t1,.int .i64 t2,.int .i64 t3,.int .i64 t4,.int .i64 t5]:List Value)[i]? = some (.int .i64 ti)∧[t0,t1,t2,t3,t4,t5].drop i=ti::[t0,t1,t2,t3,t4,t5].drop (i+1)∧0≤ti:=by
      have:i=0∨i=1∨i=2∨i=3∨i=4∨i=5:=by omega
      rcases this with rfl |rfl |rfl |rfl |rfl |rfl
      all_goals exact⟨_,rfl,rfl,by assumption⟩
     rw[ht2,hts] at hH
     have RC:(i:Int)<6:=by omega
     have aiQ:H.length+ti.toNat≤1024:=by
      rw[←hH] at hlen
      simp at hlen;omega
     clear ht2
     repeat' first |simp(maxSteps:=2000000) (disch:=first |omega | (repeat first |assumption |exact Kept.refl _ |refine Kept.set' (by assumption) ?_ ?_ |refine Kept.set (by assumption) ?_ ?_ |omega)) only[go_sem, *] | (first |apply fZ |apply fV |apply f_ |apply fW |apply fX |apply fY |apply ga |apply gd)<;>intro _ | (first |apply iz |apply iA |apply iB |apply iC)<;>intro _ |refine aK (by cbv) (by first |rfl |cbv) ?_
     refine bY (fun t m h' n'=>∃ (j:Nat) (X:List Int) (hv:Value),j≤ti.toNat∧t=ti.toNat-j∧X++List.replicate (ti.toNat-j) ((i:Int)+1)=H++List.replicate ti.toNat ((i:Int)+1)∧
      m.n=158∧m.eS=[]∧m.get 1 = .pointer (some ⟨N,0,none⟩)∧m.get 5 = .pointer (some ⟨n2+1,0,none⟩)∧m.get 36 = .agg ⟨[.int .i64 t0,.int .i64 t1,.int .i64 t2,.int .i64 t3,.int .i64 t4,.int .i64 t5]⟩∧m.get 37 = .int .i64 i∧
      m.get 6 = .int .i64 i∧m.get 41 = .int .i64 ti∧m.get 42 = .int .i64 j∧
      Kept h3 h'∧bL h' n'∧n2+2≤n'∧h'.get n2=some (.cells (PT.ofList .leaf 0 [Value.int .i64 th,.int .i64 sl,.int .u8 en,.int .i64 bu,.int .u8 kd,.int .i64 dn,.slice ca xs.length cc,.int .i64 t0,.int .i64 t1,.int .i64 t2,.int .i64 t3,.int .i64 t4,.int .i64 t5,.int .i64 lo,.int .i64 tr,.int .i64 ba,.int .i64 0,.int .i64 0,.int .i64 0,.int .i64 0,.int .i64 0,.int .i64 0,.int .i64 0,.int .i64 0,.int .i64 0,.int .i64 0,.slice none 0 0,hv,.slice none 0 0,.int .i64 (a_ kd dn xs)]) false)∧
      h'.get (n2+1)=some (.cells (PT.ofList .leaf 0 [.pointer (some ⟨n2,0,none⟩)]) false)∧bB .i64 h' (n2+2) hv X) ti.toNat ?_ ?_
     ·refine⟨0,H,hv,by omega,by omega,rfl,?_⟩
      simp(maxSteps:=2000000) (disch:=first |omega | (repeat first |assumption |exact Kept.refl _ |refine Kept.set' (by assumption) ?_ ?_ |refine Kept.set (by assumption) ?_ ?_ |omega)) only[go_sem, *]
     ·clear m1 m2 m3 m4 m5 m6 q1 q2 q3 q4 q5 q6
      rintro t m h' n' ih2 ⟨j,X,hv,hj,rfl,hX,m1,m2,m3,m4,m5,m6,m7,m8,m9,q1,q2,q3,q4,q5,q6⟩
      have Er:X.length+(ti.toNat-j)≤1024:=by
       have:=congrArg List.length hX
       simp at this;omega
      by_cases hjt:j<ti.toNat
      ·have hj7:(j:Int)<ti:=by omega
       clear ih
       have Pf:X++[(i:Int)+1]++List.replicate (ti.toNat-(j+1)) ((i:Int)+1)=H++List.replicate ti.toNat ((i:Int)+1):=by
        rw[←hX,show ti.toNat-j=(ti.toNat-(j+1))+1 by omega,List.replicate_succ];simp
       clear hX hH
       rcases q6 with ⟨rfl,hx⟩ | ⟨b,rfl,vC,uC⟩
       ·subst hx
        repeat' first |simp(maxSteps:=2000000) (disch:=first |omega | (repeat first |assumption |exact Kept.refl _ |refine Kept.set' (by assumption) ?_ ?_ |refine Kept.set (by assumption) ?_ ?_ |omega)) only[go_sem, *] | (first |apply fZ |apply fV |apply f_ |apply fW |apply fX |apply fY |apply ga |apply gd)<;>intro _ | (first |apply iz |apply iA |apply iB |apply iC)<;>intro _ |refine aK (by cbv) (by first |rfl |cbv) ?_
        refine ih2 (ti.toNat-(j+1)) _ _ _ (by omega) ⟨j+1,[(i:Int)+1],.slice (some ⟨n'+1,0,none⟩) 1 (aB+1),by omega,by omega,Pf,?_⟩
        clear ih2
        simp(maxSteps:=2000000) (disch:=first |omega | (repeat first |assumption |exact Kept.refl _ |refine Kept.set' (by assumption) ?_ ?_ |refine Kept.set (by assumption) ?_ ?_ |omega)) only[go_sem, *]
        refine⟨?_,?_,?_,by omega,.inr ⟨n'+1,rfl,by omega,?_⟩⟩
        ·simp
        ·(repeat first |assumption |exact Kept.refl _ |refine Kept.set' (by assumption) ?_ ?_ |omega)
        ·(repeat refine bL.set' (by omega) ?_);first |assumption |exact bL.mono (by assumption) (by omega)
        ·simp(disch:=omega) only[go_sem]
       ·have Vz:=q2.lt uC
        repeat' first |simp(maxSteps:=2000000) (disch:=first |omega | (repeat first |assumption |exact Kept.refl _ |refine Kept.set' (by assumption) ?_ ?_ |refine Kept.set (by assumption) ?_ ?_ |omega)) only[go_sem, *] | (first |apply fZ |apply fV |apply f_ |apply fW |apply fX |apply fY |apply ga |apply gd)<;>intro _ | (first |apply iz |apply iA |apply iB |apply iC)<;>intro _ |refine aK (by cbv) (by first |rfl |cbv) ?_
        refine ih2 (ti.toNat-(j+1)) _ _ _ (by omega) ⟨j+1,X++[(i:Int)+1],.slice (some ⟨n'+1,0,none⟩) (X.length+1) (aB+1),by omega,by omega,Pf,?_⟩
        clear ih2
        simp(maxSteps:=2000000) (disch:=first |omega | (repeat first |assumption |exact Kept.refl _ |refine Kept.set' (by assumption) ?_ ?_ |refine Kept.set (by assumption) ?_ ?_ |omega)) only[go_sem, *]
        refine⟨?_,?_,?_,by omega,.inr ⟨n'+1,?_,by omega,?_⟩⟩
        ·simp
        ·(repeat first |assumption |exact Kept.refl _ |refine Kept.set' (by assumption) ?_ ?_ |omega)
        ·(repeat refine bL.set' (by omega) ?_);first |assumption |exact bL.mono (by assumption) (by omega)
        ·simp
        ·simp(disch:=omega) only[go_sem,List.map_append]
      ·have hj7: ¬ (j:Int)<ti:=by omega
       clear ih2
       have Pf:X=H++List.replicate ti.toNat ((i:Int)+1):=by
        rw[←hX,show ti.toNat-j=0 by omega];simp
       rw[←List.append_assoc,←Pf] at hH
       clear hX Pf
       repeat' first |simp(maxSteps:=2000000) (disch:=first |omega | (repeat first |assumption |exact Kept.refl _ |refine Kept.set' (by assumption) ?_ ?_ |refine Kept.set (by assumption) ?_ ?_ |omega)) only[go_sem, *] | (first |apply fZ |apply fV |apply f_ |apply fW |apply fX |apply fY |apply ga |apply gd)<;>intro _ | (first |apply iz |apply iA |apply iB |apply iC)<;>intro _ |refine aK (by cbv) (by first |rfl |cbv) ?_
       refine ih (6-(i+1)) _ _ _ (by omega) ⟨i+1,X,hv,by omega,by omega,by simpa using hH,?_⟩
       clear ih
       simp(maxSteps:=2000000) (disch:=first |omega | (repeat first |assumption |exact Kept.refl _ |refine Kept.set' (by assumption) ?_ ?_ |refine Kept.set (by assumption) ?_ ?_ |omega)) only[go_sem, *]
       all_goals simp
    ·have RC: ¬ (i:Int)<6:=by omega
     obtain rfl:i=6:=by omega
     have hH2:H=hts 1 [t0,t1,t2,t3,t4,t5]:=by simpa [hts] using hH
     subst hH2
     clear ih hH hi hi6
     have hHb:∀ i,i<(hts 1 [t0,t1,t2,t3,t4,t5]).length→1≤(hts 1 [t0,t1,t2,t3,t4,t5]).getD i 0∧(hts 1 [t0,t1,t2,t3,t4,t5]).getD i 0≤6:=fun i hi=>by
      refine pX [t0,t1,t2,t3,t4,t5] 1 1 6 (by omega) (by simp) _ ?_
      simp[List.getD,hi]
     generalize hts 1 [t0,t1,t2,t3,t4,t5]=H at*
     have MB:H.length≤1024:=hlen
     obtain⟨ha,hc,rfl,-⟩:=q6.kF.len
     have e4:=q1 N _ e3
     have d1 : -1000≤sl:=by omega
     have d2:sl≤1000:=by omega
     have d3 : -1000≤bu:=by omega
     have d4:bu≤1000:=by omega
     obtain⟨d5,d6⟩:=kM (en:=en) c3 ZS c4 ZT
     obtain⟨d7,d8⟩:=oS c1
     repeat' first |simp(maxSteps:=2000000) (disch:=first |omega | (repeat first |assumption |exact Kept.refl _ |refine Kept.set' (by assumption) ?_ ?_ |refine Kept.set (by assumption) ?_ ?_ |omega)) only[go_sem, *,pW,mV] | (first |apply fZ |apply fV |apply f_ |apply fW |apply fX |apply fY |apply ga |apply gd)<;>intro _ | (first |apply iz |apply iA |apply iB |apply iC)<;>intro _ |refine aK (by cbv) (by first |rfl |cbv) ?_
     refine bY (fun t m h2 n3=>∃ (i:Nat) (T:List Int) (tv:Value) (A:Int),i≤H.length∧t=H.length-i∧T++Cp A (H.drop i)=Cp (0+sl*1+1*cJ en sl bu+1+lo*3+lo*1+6+H.length*1+a_ kd dn xs*7) H∧eZ A (H.drop i)=eZ (0+sl*1+1*cJ en sl bu+1+lo*3+lo*1+6+H.length*1+a_ kd dn xs*7) H∧0≤A∧A≤2000+11*i∧T.length≤i∧i≤T.length∧
      m.n=158∧m.eS=[]∧m.get 5 = .pointer (some ⟨n2+1,0,none⟩)∧m.get 8 = .pointer (some ⟨n',0,none⟩)∧m.get 131 = .slice ha H.length hc∧m.get 132 = .int .i64 H.length∧m.get 133 = .int .i64 i∧
      Kept h3 h2∧(∀ i B,n2+2≤i→h'.get i=some B→h2.get i=some B)∧bL h2 n3∧n'+9≤n3∧h2.get n2=some (.cells (PT.ofList .leaf 0 [Value.int .i64 th,.int .i64 sl,.int .u8 en,.int .i64 bu,.int .u8 kd,.int .i64 dn,.slice ca xs.length cc,.int .i64 t0,.int .i64 t1,.int .i64 t2,.int .i64 t3,.int .i64 t4,.int .i64 t5,.int .i64 lo,.int .i64 tr,.int .i64 ba,.int .i64 0,.int .i64 (0+sl*1),.int .i64 (0+sl*1+1*cJ en sl bu),.int .i64 (0+sl*1+1*cJ en sl bu+1),.int .i64 (0+sl*1+1*cJ en sl bu+1+lo*3),.int .i64 (0+sl*1+1*cJ en sl bu+1+lo*3+lo*1),.int .i64 (0+sl*1+1*cJ en sl bu+1+lo*3+lo*1+6),.int .i64 (0+sl*1+1*cJ en sl bu+1+lo*3+lo*1+6+H.length*1),.int .i64 (0+sl*1+1*cJ en sl bu+1+lo*3+lo*1+6+H.length*1+a_ kd dn xs*7),.int .i64 0,.slice (some ⟨n'+8,0,none⟩) 8 (aB+4),.slice ha H.length hc,tv,.int .i64 (a_ kd dn xs)]) false)∧
      h2.get (n2+1)=some (.cells (PT.ofList .leaf 0 [.pointer (some ⟨n2,0,none⟩)]) false)∧h2.get n'=some (.cells (PT.ofList .leaf 0 [.int .i64 A]) false)∧h2.get (n'+8)=some (.cells (PT.ofList .leaf 0 [Value.int .u8 1,.int .i64 (0),.int .i64 sl,.int .i64 1,.int .u8 2,.int .i64 (0+sl*1),.int .i64 1,.int .i64 (cJ en sl bu),.int .u8 3,.int .i64 (0+sl*1+1*cJ en sl bu),.int .i64 1,.int .i64 1,.int .u8 4,.int .i64 (0+sl*1+1*cJ en sl bu+1),.int .i64 lo,.int .i64 3,.int .u8 5,.int .i64 (0+sl*1+1*cJ en sl bu+1+lo*3),.int .i64 lo,.int .i64 1,.int .u8 6,.int .i64 (0+sl*1+1*cJ en sl bu+1+lo*3+lo*1),.int .i64 6,.int .i64 1,.int .u8 7,.int .i64 (0+sl*1+1*cJ en sl bu+1+lo*3+lo*1+6),.int .i64 H.length,.int .i64 1,.int .u8 8,.int .i64 (0+sl*1+1*cJ en sl bu+1+lo*3+lo*1+6+H.length*1),.int .i64 (a_ kd dn xs),.int .i64 7]) false)∧
      bB .i64 h2 (n'+9) tv T) H.length ?_ ?_
     ·refine⟨0,[],.slice none 0 0,_,by omega,by omega,rfl,rfl,?_⟩
      simp(maxSteps:=2000000) (disch:=first |omega | (repeat first |assumption |exact Kept.refl _ |refine Kept.set' (by assumption) ?_ ?_ |refine Kept.set (by assumption) ?_ ?_ |omega)) only[go_sem, *,Nat.le_refl]
      refine⟨by omega,by omega,?_,?_,?_,.inl ⟨rfl,rfl⟩⟩
      ·(repeat first |assumption |exact Kept.refl _ |refine Kept.set' (by assumption) ?_ ?_ |omega)
      ·intro i B hi e
       have:=q2.lt e
       simp(disch:=omega) only[aE]
       exact e
      ·(repeat refine bL.set' (by omega) ?_);first |assumption |exact bL.mono (by assumption) (by omega)
     ·clear m1 m2 m3 m4 m5 m6 q1 q4 q5
      rintro t m h2 n3 ih ⟨i,T,tv,A,hi,rfl,hT,hE,Uo,hA1,MC,amj,m1,m2,m3,m4,m5,m6,m7,r1,r2,r3,r4,r5,r6,r7,r8,r9⟩
      by_cases hlt:i<H.length
      ·rcases q6 with ⟨_,rfl⟩ | ⟨b,e,vC,uC⟩
       ·simp at hlt
       ·cases e
        have Vz:=q2.lt uC
        have hb4:=r2 b _ vC uC
        obtain⟨hx1,hx2⟩:=hHb i hlt
        have hLi:(H.map (Value.int .i64))[i]? = some (.int .i64 (H.getD i 0)):=by simp[List.getElem?_map,hlt,List.getD]
        rw[Hs hlt] at hT
        rw[yV hlt] at hE
        have RC:(i:Int)<H.length:=by omega
        clear hHb
        generalize H.getD i 0=x at*
        have hT2:T++[A]++Cp (A+(5+x)) (H.drop (i+1))=Cp (0+sl*1+1*cJ en sl bu+1+lo*3+lo*1+6+H.length*1+a_ kd dn xs*7) H:=by simpa using hT
        clear hT
        rcases r9 with ⟨rfl,hx0⟩ | ⟨tb,rfl,ht1,ht2⟩
        ·subst hx0
         repeat' first |simp(maxSteps:=2000000) (disch:=first |omega | (repeat first |assumption |exact Kept.refl _ |refine Kept.set' (by assumption) ?_ ?_ |refine Kept.set (by assumption) ?_ ?_ |omega)) only[go_sem, *] | (first |apply fZ |apply fV |apply f_ |apply fW |apply fX |apply fY |apply ga |apply gd)<;>intro _ | (first |apply iz |apply iA |apply iB |apply iC)<;>intro _ |refine aK (by cbv) (by first |rfl |cbv) ?_
         refine ih (H.length-(i+1)) _ _ _ (by omega) ⟨i+1,[A],.slice (some ⟨n3+1,0,none⟩) 1 (aB+1),A+(5+x),by omega,by omega,hT2,hE,by omega,by omega,by simp only[List.length_cons,List.length_nil] at *;omega,by simp only[List.length_cons,List.length_nil] at *;omega,?_⟩
         clear ih
         simp(maxSteps:=2000000) (disch:=first |omega | (repeat first |assumption |exact Kept.refl _ |refine Kept.set' (by assumption) ?_ ?_ |refine Kept.set (by assumption) ?_ ?_ |omega)) only[go_sem, *]
         refine⟨?_,?_,?_,?_,by omega,.inr ⟨n3+1,rfl,by omega,?_⟩⟩
         ·simp
         ·(repeat first |assumption |exact Kept.refl _ |refine Kept.set' (by assumption) ?_ ?_ |omega)
         ·intro j B hj e
          have:=q2.lt e
          simp(disch:=omega) only[aE]
          exact r2 j B hj e
         ·(repeat refine bL.set' (by omega) ?_);first |assumption |exact bL.mono (by assumption) (by omega)
         ·simp(disch:=omega) only[go_sem]
        ·have Un:=r3.lt ht2
         repeat' first |simp(maxSteps:=2000000) (disch:=first |omega | (repeat first |assumption |exact Kept.refl _ |refine Kept.set' (by assumption) ?_ ?_ |refine Kept.set (by assumption) ?_ ?_ |omega)) only[go_sem, *] | (first |apply fZ |apply fV |apply f_ |apply fW |apply fX |apply fY |apply ga |apply gd)<;>intro _ | (first |apply iz |apply iA |apply iB |apply iC)<;>intro _ |refine aK (by cbv) (by first |rfl |cbv) ?_
         refine ih (H.length-(i+1)) _ _ _ (by omega) ⟨i+1,T++[A],.slice (some ⟨n3+1,0,none⟩) (T.length+1) (aB+1),A+(5+x),by omega,by omega,hT2,hE,by omega,by omega,by simp;omega,by simp;omega,?_⟩
         clear ih
         simp(maxSteps:=2000000) (disch:=first |omega | (repeat first |assumption |exact Kept.refl _ |refine Kept.set' (by assumption) ?_ ?_ |refine Kept.set (by assumption) ?_ ?_ |omega)) only[go_sem, *]
         refine⟨?_,?_,?_,?_,by omega,.inr ⟨n3+1,?_,by omega,?_⟩⟩
         ·simp
         ·(repeat first |assumption |exact Kept.refl _ |refine Kept.set' (by assumption) ?_ ?_ |omega)
         ·intro j B hj e
          have:=q2.lt e
          simp(disch:=omega) only[aE]
          exact r2 j B hj e
         ·(repeat refine bL.set' (by omega) ?_);first |assumption |exact bL.mono (by assumption) (by omega)
         ·simp
         ·simp(disch:=omega) only[go_sem,List.map_append]
      ·have RC: ¬ (i:Int)<H.length:=by omega
       clear ih
       rw[List.drop_eq_nil_of_le (by omega)] at hT hE
       simp only[Cp,eZ,List.append_nil] at hT hE
       subst hT hE
       repeat' first |simp(maxSteps:=2000000) (disch:=first |omega | (repeat first |assumption |exact Kept.refl _ |refine Kept.set' (by assumption) ?_ ?_ |refine Kept.set (by assumption) ?_ ?_ |omega)) only[go_sem, *,Tryz.results45] | (first |apply fZ |apply fV |apply f_ |apply fW |apply fX |apply fY |apply ga |apply gd)<;>intro _ | (first |apply iz |apply iA |apply iB |apply iC)<;>intro _ |refine aK (by cbv) (by first |rfl |cbv) ?_
       exact⟨n2,_,_,_,n'+8,rfl,Bl hW ZU ZV r1 hn2 q3 r2 Um.kF q6 r9 r8⟩
end Go.Proofs.YtofmbmclopgldaaGreat
