/-
  A part of the proof: contracts of inner functions.
-/
import Derived.Test.YtofmbmclopgldaaGreatT9V
import Derived.Test.YtofmbmclopgldaaGreatBF
set_option linter.unusedVariables false
set_option linter.unusedSimpArgs false
namespace Go.Proofs.YtofmbmclopgldaaGreat
open Go.Am
def D6:List Nat→Int
 | []=>0
 |a::_=>a
def Lk (W:List Int) (p6:Nat):List Nat→Prop
 | []=>True
 |a::l=>W[p6+a-1]? = some (D6 l)∧Lk W p6 l
def Eu {α:Type} (f:Nat→α) (k:Nat) (x:α):Nat→α:=fun j=>if j=k then x else f j
structure HX (p5 p6 n:Nat) (H:List Int) (W:List Int) (stk:Nat→List Nat) (tag:Nat→Int):Prop where
 h6:p5+6=p6
 sz:p6+n≤W.length
 len:H.length=n
 head:∀ k,k<6→W[p5+k]? = some (D6 (stk k)+65536*tag k)
 tag:∀ k,k<6→0≤tag k∧tag k<1099511627776
 link:∀ k,k<6→Lk W p6 (stk k)
 mem:∀ k t,k<6→t∈stk k→1≤t∧t≤n∧H.getD (t-1) 0=(k:Int)+1
 nd:∀ k,k<6→(stk k).Nodup
section
variable {p5 p6 n:Nat} {H W:List Int} {stk:Nat→List Nat} {tag:Nat→Int}
end
def oY:List Int→Int→Nat→List Nat
 | [],_,_=>[]
 |x::xs,h,b=>if x=h then b::oY xs h (b+1) else oY xs h (b+1)
theorem xe:∀ (L:List Int) (h:Int) (b:Nat),fs L h b=D6 (oY L h b)
 | [],_,_=>rfl
 |x::xs,h,b=>by
  rw[fs,oY]
  by_cases c:x=h
  ·rw[if_pos c,if_pos c];rfl
  ·rw[if_neg c,if_neg c,←xe xs h (b+1)];rfl
theorem tY:∀ (L:List Int) (h:Int) (b t:Nat),t∈oY L h b→b≤t∧t<b+L.length∧L.getD (t-b) 0=h
 | [],_,_,_,ht=>by simp[oY] at ht
 |x::xs,h,b,t,ht=>by
  rw[oY] at ht
  have key:t∈oY xs h (b+1)→b≤t∧t<b+(x::xs).length∧(x::xs).getD (t-b) 0=h:=fun q=>by
   obtain⟨q1,q2,q3⟩:=tY xs h (b+1) t q
   refine⟨by omega,by rw[List.length_cons];omega,?_⟩
   rw[show t-b=(t-(b+1))+1 by omega,List.getD_cons_succ];exact q3
  by_cases c:x=h
  ·rw[if_pos c] at ht
   rcases List.mem_cons.1 ht with rfl |ht
   ·exact⟨Nat.le_refl _,by rw[List.length_cons];omega,by rw[Nat.sub_self];exact c⟩
   ·exact key ht
  ·rw[if_neg c] at ht;exact key ht
theorem n_:∀ (L:List Int) (h:Int) (b:Nat),(oY L h b).Nodup
 | [],_,_=>List.nodup_nil
 |x::xs,h,b=>by
  rw[oY]
  split
  ·exact List.nodup_cons.2 ⟨fun q=>by have:=(tY _ _ _ _ q).1;omega,n_ xs h (b+1)⟩
  ·exact n_ xs h (b+1)
theorem tZ {p5 p6 sz k:Nat} {H:List Int} (hk:k<sz):(tO p5 p6 sz H 0)[k]? = some (vi p5 p6 H 0 k):=by
 unfold tO;rw[List.getElem?_map,List.getElem?_range hk];rfl
theorem MP {p5 p6 sz:Nat} {H:List Int} {h:Int} (h6:p5+6=p6) (hs:p6+H.length≤sz):∀ (m j:Nat),j+m=H.length→Lk (tO p5 p6 sz H 0) p6 (oY (H.drop j) h (j+1))
 |0,j,hj=>by rw[List.drop_eq_nil_of_le (by omega)];trivial
 |m+1,j,hj=>by
  have ih:=MP h6 hs (h:=h) m (j+1) (by omega)
  have hlt:j<H.length:=by omega
  rw[List.drop_eq_getElem_cons hlt,oY]
  by_cases c:H[j]=h
  ·rw[if_pos c]
   refine⟨?_,ih⟩
   rw[tZ (by omega)]
   unfold vi
   have hg:H.getD (p6+(j+1)-1-p6) 0=h:=by rw[show p6+(j+1)-1-p6=j by omega];simp[List.getD,hlt,c]
   rw[if_pos (by omega),hg,←xe]
   rw[show p6+(j+1)-1-p6=j by omega]
   rfl
  ·rw[if_neg c];exact ih
theorem HX.init {p5 p6 sz n:Nat} {H:List Int} (h6:p5+6=p6) (hs:p6+H.length≤sz) (hn:H.length=n):HX p5 p6 n H (tO p5 p6 sz H 0) (fun k=>oY H ((k:Int)+1) 1) (fun _=>0):=by
 refine⟨h6,by rw[me];omega,hn,fun k hk=>?_,fun k hk=>by omega,fun k hk=>?_,fun k t hk ht=>?_,fun k hk=>n_ _ _ _⟩
 ·rw[tZ (by omega)]
  unfold vi
  rw[if_neg (by omega),if_pos (by omega),show p5+k-p5=k by omega,List.drop_zero]
  rw[show ((0:Nat):Int)+1=((1:Nat):Int) from rfl,xe]
  simp
 ·have:=MP (h:=(k:Int)+1) h6 hs H.length 0 (by omega)
  rwa [List.drop_zero] at this
 ·obtain⟨q1,q2,q3⟩:=tY _ _ _ _ ht
  exact⟨q1,by omega,q3⟩
end Go.Proofs.YtofmbmclopgldaaGreat
set_option linter.unusedVariables false
set_option linter.unusedSimpArgs false
namespace Go.Proofs.YtofmbmclopgldaaGreat
open Go.Am
set_option maxRecDepth 100000 in
set_option maxHeartbeats 8000000 in
theorem La {h h1:PT ak} {n n1 lb sz:Nat} {d:Rl→Nat} {C:Rl→Option ak} {W:List Int} {L:List Value} {k:Nat} {l:cK} {V:Int} (S:St h n d C) (F:Fz h1 n1 d C) (M:mB d C W L k) (hl0:(tI (pt lb)).look h1=some l) (hn:wW l V sz) (hW:W.length=sz):
  cW Tryz.prog OB 48 [pt (d rM),pt lb] h n fun r h' n'=>∃ p,n≤p∧p<n'∧r=nD [pt p,I6 0]∧St h' n' (upd d (78,0) p) (upd C (78,0) (row [pt (d rM),pt lb])):=by
 obtain⟨m1,m2,m3,m4⟩:=M
 have g0:=S.at m1
 have gw:=S.at m2
 have n0:=S.lt m1
 have nw:=S.lt m2
 have K:=F.kept S
 have Wf:=F.wf
 have hrl:=fun h' hk z f d ops r K m n=>@cE _ _ _ _ h' hl0 z f d ops r K m n hk
 have acS:=hn.sz1
 have HW:=hn.RE
 obtain⟨q0,q1,q2,q3,q4,q5,q6,q7,q8,hP⟩:=hn.PL
 have Bm:l.P.map (Value.int .i64)=[I6 q0,I6 q1,I6 q2,I6 q3,I6 q4,I6 q5,I6 q6,I6 q7,I6 q8,I6 sz]:=by rw[hP];rfl
 have hw:=PG (O:=OB) rfl (d rM) (d rW) W.length (Et (d rL) k) W h n S.wf g0 gw (by omega)
 rw[hW] at hw g0
 have WfS:=S.wf
 clear m1 m2 m3 m4 hP hn hl0
 refine ay (N:=23) Tryz.func48 rfl rfl fun z hP hO hro hN hQ=>?_
 repeat' first |simp(maxSteps:=2000000) (disch:=first |omega | (repeat first |assumption |exact Kept.refl _ |refine Kept.set' (by assumption) ?_ ?_ |refine Kept.set (by assumption) ?_ ?_ |omega)) only[go_sem, *] | (apply xs<;>intro _)<;>try omega
 refine iH (hw) (by simp only[*]) (by simp only[*]) (by simp only[go_sem, *]) (by simp only[go_sem, *]) ?_
 rintro r h2 n2 ⟨rfl,rfl,q2,q3,q4⟩
 have K2:=K.trans q3
 have S2:=S.kept q3 q4
 repeat' first |simp(maxSteps:=2000000) (disch:=first |omega | (repeat first |assumption |exact Kept.refl _ |refine Kept.set' (by assumption) ?_ ?_ |refine Kept.set (by assumption) ?_ ?_ |omega)) only[go_sem, *,iL] | (apply xs<;>intro _)<;>try omega
 exact⟨_,by omega,by omega,rfl,S2.new (78,0) _ (Nat.le_refl _) (Nat.lt_succ_self _)⟩
end Go.Proofs.YtofmbmclopgldaaGreat
set_option linter.unusedVariables false
set_option linter.unusedSimpArgs false
namespace Go.Proofs.YtofmbmclopgldaaGreat
open Go.Am
theorem OBc (a:List Value):OB 109 a=none:=rfl
def Ea (en:Int) (d:Rl→Nat) (C:Rl→Option ak) (base:Int) (n:Nat):Prop:=
 (en=1∧PJ d C base n (List.replicate n 0) (List.replicate n false))∨(en=2∧PK d C base n (List.replicate n (0,false)))∨(en=3∧∃ nb:Nat,PN d C base nb n [] 0)
theorem Ea.put {en base:Int} {d:Rl→Nat} {C:Rl→Option ak} {n a b:Nat} {X:Option ak} (E:Ea en d C base n) (ha:7<a):Ea en d (upd C (a,b) X) base n:=by
 have q:∀ c,c<8→upd C (a,b) X (c,0)=C (c,0):=fun c hc=>aq (by omega)
 rcases E with ⟨e,e1,e2,e3,e4,e5,e6⟩ | ⟨e,e1,e2,e3,e4,e5⟩ | ⟨e,nb,e1,e2,e3⟩
 ·exact .inl ⟨e,(q 4 (by omega)).trans e1,(q 5 (by omega)).trans e2,(q 6 (by omega)).trans e3,(q 7 (by omega)).trans e4,e5,e6⟩
 ·exact .inr (.inl ⟨e,(q 4 (by omega)).trans e1,(q 5 (by omega)).trans e2,(q 6 (by omega)).trans e3,(q 7 (by omega)).trans e4,e5⟩)
 ·exact .inr (.inr ⟨e,nb,(q 4 (by omega)).trans e1,(q 5 (by omega)).trans e2,(q 6 (by omega)).trans e3⟩)
theorem HY {h h1:PT ak} {n1 nn:Nat} {d:Rl→Nat} {C:Rl→Option ak} {W:List Int} {L:List Value} {k:Nat} {en ba sl bu:Int} (S:St h nn d C) (F:Fz h1 n1 d C) (hn:n1≤nn) (M:mB d C W L k) (he:1≤en∧en≤3) (hs:1≤sl∧sl≤64) (hb:if en=3 then 1≤bu∧bu≤16 else bu=0) (h0:0≤ba) (hW:ba+cJ en sl bu≤W.length) (vk:W.length≤65536):
  cW Tryz.prog OB 49 [pt (d rM),U8 en,I6 ba,I6 sl,I6 bu] h nn fun r h' n'=>∃ d' C',r=nD [pt (d' (4,0)),I6 0]∧St h' n' d' C'∧Ea en d' C' ba sl.toNat∧(∀ a b,a≠4→a≠5→a≠6→a≠7→d' (a,b)=d (a,b)∧C' (a,b)=C (a,b))∧Fz h1 n1 d' C':=by
 obtain⟨b0,rfl⟩:=Int.eq_ofNat_of_zero_le h0
 obtain⟨s0,rfl⟩:=Int.eq_ofNat_of_zero_le (show 0≤sl by omega)
 unfold cJ at hW
 have c:en=1∨en=2∨en=3:=by omega
 rcases c with rfl |rfl |rfl
 ·rw[if_neg (by decide)] at hb
  subst hb
  refine(UY S M ⟨by omega,by omega⟩ (ba:=b0) (ns:=s0) (by simp at hW;omega) vk).mono ?_
  rintro r h' n' ⟨d',C',q1,q2,q3,q4,q5⟩
  exact⟨d',C',q1,q2,.inl ⟨rfl,by simpa using q3⟩,q4,q5 _ _ hn F⟩
 ·rw[if_neg (by decide)] at hb
  subst hb
  refine(UZ S M ⟨by omega,by omega⟩ (ba:=b0) (ns:=s0) (by simp at hW;omega) vk).mono ?_
  rintro r h' n' ⟨d',C',q1,q2,q3,q4,q5⟩
  exact⟨d',C',q1,q2,.inr (.inl ⟨rfl,by simpa using q3⟩),q4,q5 _ _ hn F⟩
 ·rw[if_pos rfl] at hb
  obtain⟨u0,rfl⟩:=Int.eq_ofNat_of_zero_le (show 0≤bu by omega)
  refine(U0 S M ⟨by omega,by omega⟩ ⟨by omega,by omega⟩ (ba:=b0) (ns:=s0) (nb:=u0) (by simp at hW;omega) vk).mono ?_
  rintro r h' n' ⟨d',C',q1,q2,q3,q4,q5⟩
  exact⟨d',C',q1,q2,.inr (.inr ⟨rfl,u0,by simpa using q3⟩),q4,q5 _ _ hn F⟩
end Go.Proofs.YtofmbmclopgldaaGreat
