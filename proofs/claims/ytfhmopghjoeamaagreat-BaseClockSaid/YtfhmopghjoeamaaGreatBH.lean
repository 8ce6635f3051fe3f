/-
  A part of the proof: contracts of inner functions.
-/
import Derived.Test.YtfhmopghjoeamaaGreatT9V
import Derived.Test.YtfhmopghjoeamaaGreatBF
set_option linter.unusedVariables false
set_option linter.unusedSimpArgs false
namespace Go.Proofs.YtfhmopghjoeamaaGreat
open Go.Am
def HI:List Nat→Int
 | []=>0
 |a::_=>a
def Lk (W:List Int) (p6:Nat):List Nat→Prop
 | []=>True
 |a::l=>W[p6+a-1]? = some (HI l)∧Lk W p6 l
def HJ {α:Type} (f:Nat→α) (k:Nat) (x:α):Nat→α:=fun j=>if j=k then x else f j
theorem cJ {α:Type} {f:Nat→α} {k:Nat} {x:α}:HJ f k x k=x:=if_pos rfl
theorem eY {α:Type} {f:Nat→α} {k j:Nat} {x:α} (h:j≠k):HJ f k x j=f j:=if_neg h
structure HK (p5 p6 n:Nat) (H:List Int) (W:List Int) (stk:Nat→List Nat) (tag:Nat→Int):Prop where
 h6:p5+6=p6
 sz:p6+n≤W.length
 len:H.length=n
 head:∀ k,k<6→W[p5+k]? = some (HI (stk k)+65536*tag k)
 tag:∀ k,k<6→0≤tag k∧tag k<1099511627776
 link:∀ k,k<6→Lk W p6 (stk k)
 mem:∀ k t,k<6→t∈stk k→1≤t∧t≤n∧H.getD (t-1) 0=(k:Int)+1
 nd:∀ k,k<6→(stk k).Nodup
theorem Lk.of {W W':List Int} {p6:Nat}:∀ {l:List Nat},Lk W p6 l→(∀ t∈l,W'[p6+t-1]? = W[p6+t-1]?)→Lk W' p6 l
 | [],_,_=>trivial
 |a::l,⟨h1,h2⟩,e=>⟨by rw[e a (by simp)];exact h1,h2.of fun t ht=>e t (by simp[ht])⟩
section
variable {p5 p6 n:Nat} {H W:List Int} {stk:Nat→List Nat} {tag:Nat→Int}
theorem HK.take (P:HK p5 p6 n H W stk tag) {k a:Nat} {l:List Nat} (hk:k<6) (e:stk k=a::l) {g:Int} (hg:0≤g∧g<1099511627776):
  HK p5 p6 n H (W.set (p5+k) (HI l+65536*g)) (HJ stk k l) (HJ tag k g):=by
 obtain⟨h6,sz,len,head,tg,link,mem,nd⟩:=P
 have hl:=link k hk
 rw[e] at hl
 refine⟨h6,by rw[List.length_set];exact sz,len,fun j hj=>?_,fun j hj=>?_,fun j hj=>?_,fun j t hj ht=>?_,fun j hj=>?_⟩
 ·by_cases c:j=k
  ·subst c;rw[cJ,cJ,List.getElem?_set_self (by omega)]
  ·rw[eY c,eY c,List.getElem?_set_ne (by omega)];exact head j hj
 ·by_cases c:j=k
  ·subst c;rw[cJ];exact hg
  ·rw[eY c];exact tg j hj
 ·have hs:∀ t,1≤t→(W.set (p5+k) (HI l+65536*g))[p6+t-1]? = W[p6+t-1]? := fun t ht=>List.getElem?_set_ne (by omega)
  by_cases c:j=k
  ·subst c;rw[cJ]
   exact hl.2.of fun t ht=>hs t (mem j t hj (by rw[e];simp[ht])).1
  ·rw[eY c];exact(link j hj).of fun t ht=>hs t (mem j t hj ht).1
 ·by_cases c:j=k
  ·subst c;rw[cJ] at ht
   exact mem j t hj (by rw[e];simp[ht])
  ·rw[eY c] at ht;exact mem j t hj ht
 ·by_cases c:j=k
  ·subst c;rw[cJ]
   have:=nd j hj
   rw[e] at this
   exact(List.nodup_cons.1 this).2
  ·rw[eY c];exact nd j hj
theorem HK.give (P:HK p5 p6 n H W stk tag) {k t:Nat} (hk:k<6) (ht:1≤t∧t≤n) (hH:H.getD (t-1) 0=(k:Int)+1) (hn:t∉stk k) {g:Int} (hg:0≤g∧g<1099511627776):
  HK p5 p6 n H ((W.set (p6+t-1) (HI (stk k))).set (p5+k) ((t:Int)+65536*g)) (HJ stk k (t::stk k)) (HJ tag k g):=by
 obtain⟨h6,sz,len,head,tg,link,mem,nd⟩:=P
 have hs:∀ u,1≤u→u≠t→((W.set (p6+t-1) (HI (stk k))).set (p5+k) ((t:Int)+65536*g))[p6+u-1]? = W[p6+u-1]? := fun u hu Z7=>by
  rw[List.getElem?_set_ne (by omega),List.getElem?_set_ne (by omega)]
 have hne:∀ j,j<6→∀ u∈stk j,u≠t:=fun j hj u hu c=>by
  subst c
  have:=(mem j u hj hu).2.2
  rw[hH] at this
  exact hn (by rw[show k=j by omega];exact hu)
 refine⟨h6,by rw[List.length_set,List.length_set];exact sz,len,fun j hj=>?_,fun j hj=>?_,fun j hj=>?_,fun j u hj hu=>?_,fun j hj=>?_⟩
 ·by_cases c:j=k
  ·subst c;rw[cJ,cJ,List.getElem?_set_self (by rw[List.length_set];omega)];rfl
  ·rw[eY c,eY c,List.getElem?_set_ne (by omega),List.getElem?_set_ne (by omega)];exact head j hj
 ·by_cases c:j=k
  ·subst c;rw[cJ];exact hg
  ·rw[eY c];exact tg j hj
 ·have hl:=(link j hj).of fun u hu=>hs u (mem j u hj hu).1 (hne j hj u hu)
  by_cases c:j=k
  ·subst c;rw[cJ]
   exact⟨by rw[List.getElem?_set_ne (by omega),List.getElem?_set_self (by omega)],hl⟩
  ·rw[eY c];exact hl
 ·by_cases c:j=k
  ·subst c;rw[cJ] at hu
   rcases List.mem_cons.1 hu with rfl |hu
   ·exact⟨ht.1,ht.2,hH⟩
   ·exact mem j u hj hu
  ·rw[eY c] at hu;exact mem j u hj hu
 ·by_cases c:j=k
  ·subst c;rw[cJ]
   exact List.nodup_cons.2 ⟨hn,nd j hj⟩
  ·rw[eY c];exact nd j hj
end
end Go.Proofs.YtfhmopghjoeamaaGreat
set_option linter.unusedVariables false
set_option linter.unusedSimpArgs false
namespace Go.Proofs.YtfhmopghjoeamaaGreat
open Go.Am
set_option maxRecDepth 100000 in
set_option maxHeartbeats 8000000 in
theorem Dk {h h1:PT ak} {n n1 lb sz:Nat} {d:Rl→Nat} {C:Rl→Option ak} {W:List Int} {L:List Value} {k:Nat} {l:fG} {V:Int} (S:St h n d C) (F:Fz h1 n1 d C) (M:rj d C W L k) (hl0:(tC (pt lb)).look h1=some l) (hn:Da l V sz) (hW:W.length=sz):
  gN Tryz.prog OB 37 [pt (d rM),pt lb] h n fun r h' n'=>∃ p,n≤p∧p<n'∧r=pZ [pt p,I6 0]∧St h' n' (upd d (78,0) p) (upd C (78,0) (row [pt (d rM),pt lb])):=by
 obtain⟨m1,m2,m3,m4⟩:=M
 have g0:=S.at m1
 have gw:=S.at m2
 have n0:=S.lt m1
 have nw:=S.lt m2
 have K:=F.kept S
 have Wf:=F.wf
 have hrl:=fun h' hk z f d ops r K m n=>@eo _ _ _ _ h' hl0 z f d ops r K m n hk
 have Rf:=hn.Np
 have AY:=hn.QV
 obtain⟨q0,q1,q2,q3,q4,q5,q6,q7,q8,hP⟩:=hn.PL
 have vB:l.P.map (Value.int .i64)=[I6 q0,I6 q1,I6 q2,I6 q3,I6 q4,I6 q5,I6 q6,I6 q7,I6 q8,I6 sz]:=by rw[hP];rfl
 have hw:=Gb (O:=OB) rfl (d rM) (d rW) W.length (Db (d rL) k) W h n S.wf g0 gw (by omega)
 rw[hW] at hw g0
 have Z8:=S.wf
 clear m1 m2 m3 m4 hP hn hl0
 refine aD (N:=23) Tryz.func37 rfl rfl fun z hP hO hro hN hQ=>?_
 repeat' first |simp(maxSteps:=2000000) (disch:=first |omega | (repeat first |assumption |exact Kept.refl _ |refine Kept.set' (by assumption) ?_ ?_ |refine Kept.set (by assumption) ?_ ?_ |omega)) only[go_sem, *] | (apply xs<;>intro _)<;>try omega
 refine xR (hw) (by simp only[*]) (by simp only[*]) (by simp only[go_sem, *]) (by simp only[go_sem, *]) ?_
 rintro r h2 n2 ⟨rfl,rfl,q2,q3,q4⟩
 have K2:=K.trans q3
 have S2:=S.kept q3 q4
 repeat' first |simp(maxSteps:=2000000) (disch:=first |omega | (repeat first |assumption |exact Kept.refl _ |refine Kept.set' (by assumption) ?_ ?_ |refine Kept.set (by assumption) ?_ ?_ |omega)) only[go_sem, *,fI] | (apply xs<;>intro _)<;>try omega
 exact⟨_,by omega,by omega,rfl,S2.new (78,0) _ (Nat.le_refl _) (Nat.lt_succ_self _)⟩
end Go.Proofs.YtfhmopghjoeamaaGreat
set_option linter.unusedVariables false
set_option linter.unusedSimpArgs false
namespace Go.Proofs.YtfhmopghjoeamaaGreat
open Go.Am
theorem YY (a:List Value):OB 66 a=none:=rfl
def AZ (en:Int) (d:Rl→Nat) (C:Rl→Option ak) (base:Int) (n:Nat):Prop:=
 (en=1∧Ku d C base n (List.replicate n 0) (List.replicate n false))∨(en=2∧Kw d C base n (List.replicate n (0,false)))∨(en=3∧∃ nb:Nat,Kx d C base nb n [] 0)
theorem AZ.put {en base:Int} {d:Rl→Nat} {C:Rl→Option ak} {n a b:Nat} {X:Option ak} (E:AZ en d C base n) (ha:7<a):AZ en d (upd C (a,b) X) base n:=by
 have q:∀ c,c<8→upd C (a,b) X (c,0)=C (c,0):=fun c hc=>aq (by omega)
 rcases E with ⟨e,e1,e2,e3,e4,e5,e6⟩ | ⟨e,e1,e2,e3,e4,e5⟩ | ⟨e,nb,e1,e2,e3⟩
 ·exact .inl ⟨e,(q 4 (by omega)).trans e1,(q 5 (by omega)).trans e2,(q 6 (by omega)).trans e3,(q 7 (by omega)).trans e4,e5,e6⟩
 ·exact .inr (.inl ⟨e,(q 4 (by omega)).trans e1,(q 5 (by omega)).trans e2,(q 6 (by omega)).trans e3,(q 7 (by omega)).trans e4,e5⟩)
 ·exact .inr (.inr ⟨e,nb,(q 4 (by omega)).trans e1,(q 5 (by omega)).trans e2,(q 6 (by omega)).trans e3⟩)
theorem A1 {h h1:PT ak} {n1 nn:Nat} {d:Rl→Nat} {C:Rl→Option ak} {W:List Int} {L:List Value} {k:Nat} {en ba sl bu:Int} (S:St h nn d C) (F:Fz h1 n1 d C) (hn:n1≤nn) (M:rj d C W L k) (he:1≤en∧en≤3) (hs:1≤sl∧sl≤64) (hb:if en=3 then 1≤bu∧bu≤16 else bu=0) (h0:0≤ba) (hW:ba+bR en sl bu≤W.length) (wv:W.length≤65536):
  gN Tryz.prog OB 38 [pt (d rM),U8 en,I6 ba,I6 sl,I6 bu] h nn fun r h' n'=>∃ d' C',r=pZ [pt (d' (4,0)),I6 0]∧St h' n' d' C'∧AZ en d' C' ba sl.toNat∧(∀ a b,a≠4→a≠5→a≠6→a≠7→d' (a,b)=d (a,b)∧C' (a,b)=C (a,b))∧Fz h1 n1 d' C':=by
 obtain⟨b0,rfl⟩:=Int.eq_ofNat_of_zero_le h0
 obtain⟨s0,rfl⟩:=Int.eq_ofNat_of_zero_le (show 0≤sl by omega)
 unfold bR at hW
 have c:en=1∨en=2∨en=3:=by omega
 rcases c with rfl |rfl |rfl
 ·rw[if_neg (by decide)] at hb
  subst hb
  refine(Ky S M ⟨by omega,by omega⟩ (ba:=b0) (ns:=s0) (by simp at hW;omega) wv).mono ?_
  rintro r h' n' ⟨d',C',q1,q2,q3,q4,q5⟩
  exact⟨d',C',q1,q2,.inl ⟨rfl,by simpa using q3⟩,q4,q5 _ _ hn F⟩
 ·rw[if_neg (by decide)] at hb
  subst hb
  refine(Kz S M ⟨by omega,by omega⟩ (ba:=b0) (ns:=s0) (by simp at hW;omega) wv).mono ?_
  rintro r h' n' ⟨d',C',q1,q2,q3,q4,q5⟩
  exact⟨d',C',q1,q2,.inr (.inl ⟨rfl,by simpa using q3⟩),q4,q5 _ _ hn F⟩
 ·rw[if_pos rfl] at hb
  obtain⟨u0,rfl⟩:=Int.eq_ofNat_of_zero_le (show 0≤bu by omega)
  refine(KA S M ⟨by omega,by omega⟩ ⟨by omega,by omega⟩ (ba:=b0) (ns:=s0) (nb:=u0) (by simp at hW;omega) wv).mono ?_
  rintro r h' n' ⟨d',C',q1,q2,q3,q4,q5⟩
  exact⟨d',C',q1,q2,.inr (.inr ⟨rfl,u0,by simpa using q3⟩),q4,q5 _ _ hn F⟩
end Go.Proofs.YtfhmopghjoeamaaGreat
