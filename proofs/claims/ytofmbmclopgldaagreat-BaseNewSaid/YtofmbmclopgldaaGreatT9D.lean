/-
  A part of the proof: contracts of inner functions.
-/
import Derived.Test.YtofmbmclopgldaaGreatT9S2
import Derived.Test.YtofmbmclopgldaaGreatT9C
set_option linter.unusedVariables false
set_option linter.unusedSimpArgs false
namespace Go.Proofs.YtofmbmclopgldaaGreat
open Go.Am
def mY (sz:Nat) (h:PT ak) (s:Value) (L:List Value) (k:Nat):Prop:=
 (s = .slice none 0 0∧L=[]∧k=0)∨∃ b,s = .slice (some ⟨b,0,none⟩) k (aB+sz)∧h.get b=some (.cells (PT.ofList .leaf 0 L) false)∧L.length=k*sz
def Pk (x:Int×Int×Int):List Value:=[.int .u8 x.1,.int .i64 x.2.1,.int .i64 x.2.2]
def iq (W:List (Int×Int×Int)):List Value:=W.flatMap Pk
theorem qL:∀ W:List (Int×Int×Int),(iq W).length=W.length*3
 | []=>rfl
 |x::W=>by
  have:=qL W
  unfold iq at*
  rw[List.flatMap_cons,List.length_append,this]
  simp only[Pk,List.length_cons,List.length_nil];omega
theorem yX (W V:List (Int×Int×Int)):iq (W++V)=iq W++iq V:=List.flatMap_append
def Es (kind first:Int) (p n:Nat):List (Int×Int×Int):=(List.range n).map fun i=>(kind,first+((i/p:Nat):Int),((i%p:Nat):Int))
theorem HB {kind first:Int} {p n:Nat}:Es kind first p (n+1)=Es kind first p n++[(kind,first+((n/p:Nat):Int),((n%p:Nat):Int))]:=by
 simp[Es,List.range_succ]
set_option maxRecDepth 100000 in
set_option maxHeartbeats 4000000 in
theorem group {O:Over} (lb:Nat) (S:List Value) (wv:Value) (L:List Value) (k n p:Nat) (kind first:Int) (h:PT ak) (N:Nat) (hW:bL h N) (hb:h.get lb=some (.cells (PT.ofList .leaf 0 S) false)) (hS:S.length=28) (qI:S[27]? = some wv)
  (hg:mY 3 h wv L k) (hne:∀ b k c,wv = .slice (some ⟨b,0,none⟩) k c→b≠lb) (hk:k+n≤1000000) (hp:1≤p) (hp2:p≤1000000) (hf:0≤first) (Uy:first≤1000000):
  cW Tryz.prog O 210 [.pointer (some ⟨lb,0,none⟩),.int .i64 n,.int .u8 kind,.int .i64 first,.int .i64 p] h N fun v h' n'=>v = .int .i64 k∧
   ∃ uz,h'.get lb=some (.cells (PT.ofList .leaf 0 (S.set 27 uz)) false)∧mY 3 h' uz (L++iq (Es kind first p n)) (k+n)∧(uz=wv∧n=0∨∃ b,uz = .slice (some ⟨b,0,none⟩) (k+n) (aB+3)∧N≤b∧0<n)∧
    ∀ i,i<N→i≠lb→(∀ k c,wv ≠ .slice (some ⟨i,0,none⟩) k c)→h'.get i=h.get i:=by
 have ams:=hW.lt hb
 have hlen:(.slice none 0 0:Value) = .slice none 0 0:=rfl
 refine ay (N:=43) Tryz.func210 rfl rfl fun z hP hO hro hN hQ=>?_
 have hx:∃ a c,wv = .slice a k c:=by
  rcases hg with ⟨rfl,rfl,rfl⟩ | ⟨b,rfl,_,_⟩
  ·exact⟨_,_,rfl⟩
  ·exact⟨_,_,rfl⟩
 obtain⟨a,c,hwv⟩:=hx
 rw[hwv] at qI
 repeat' first |simp(maxSteps:=2000000) (disch:=omega) only[go_sem, *,Tryz.results210] | (first |apply fZ |apply fV |apply f_ |apply fW |apply fX |apply fY |apply ga |apply gd)<;>intro _ | (first |apply iz |apply iA |apply iB |apply iC)<;>intro _ |refine aK (id:=5) (L:=wN) (by kernel_rfl) (by kernel_rfl) ?_
 rw[←hwv] at qI
 clear hwv
 have jO:S.set 27 wv=S:=by
  apply List.ext_getElem?
  intro i
  rw[List.getElem?_set]
  split
  ·rename_i e;subst e;rw[if_pos (by omega)];exact qI.symm
  ·rfl
 refine bY (fun t m h' n'=>∃ (j:Nat) (uz:Value),j≤n∧t=n-j∧m.n=43∧m.eS=[]∧m.get 0 = .pointer (some ⟨lb,0,none⟩)∧m.get 1 = .int .i64 n∧m.get 2 = .int .u8 kind∧m.get 3 = .int .i64 first∧m.get 4 = .int .i64 p∧m.get 11 = .int .i64 k∧m.get 12 = .int .i64 j∧
  bL h' n'∧N≤n'∧h'.get lb=some (.cells (PT.ofList .leaf 0 (S.set 27 uz)) false)∧mY 3 h' uz (L++iq (Es kind first p j)) (k+j)∧(uz=wv∧j=0∨∃ b,uz = .slice (some ⟨b,0,none⟩) (k+j) (aB+3)∧N≤b∧0<j)∧(∀ b k c,uz = .slice (some ⟨b,0,none⟩) k c→b≠lb)∧
   ∀ i,i<N→i≠lb→(∀ k c,wv ≠ .slice (some ⟨i,0,none⟩) k c)→h'.get i=h.get i) n ?_ ?_
 ·refine⟨0,wv,by omega,by omega,?_⟩
  rw[jO]
  simp(maxSteps:=2000000) (disch:=omega) only[go_sem, *]
  have e0:iq (Es kind first p 0)=[]:=rfl
  rw[e0,List.append_nil]
  exact⟨Nat.le_refl _,hg,fun b k c e=>hne b k c e,fun _ _ _ _=>trivial⟩
 ·rintro t m h' n' ih ⟨j,uz,hj,rfl,m1,m2,m3,m4,m5,m6,m7,m8,m9,q1,q2,q3,q4,q5,q7,q6⟩
  by_cases hjn:j<n
  ·have hji:(j:Int)<n:=by omega
   have hpp: ¬ (p:Int)=0:=by omega
   have hd1:j/p≤j:=Nat.div_le_self _ _
   have hd2:j%p<p:=Nat.mod_lt _ (by omega)
   have hq:(j:Int).tdiv p=((j/p:Nat):Int):=rfl
   have hr:(j:Int).tmod p=((j%p:Nat):Int):=rfl
   have hlb:=q1.lt q3
   have hS2:(S.set 27 uz).length=28:=by simpa using hS
   have amt:(S.set 27 uz)[27]? = some uz:=by rw[List.getElem?_set,if_pos rfl,if_pos (by omega)]
   have hnew:∀ wn,S.set 27 wn=(S.set 27 uz).set 27 wn:=fun wn=>by rw[List.set_set]
   have hrow:L++iq (Es kind first p (j+1))=(L++iq (Es kind first p j))++[.int .u8 kind,.int .i64 (first+((j/p:Nat):Int)),.int .i64 ((j%p:Nat):Int)]:=by
    rw[HB,yX,←List.append_assoc];rfl
   generalize hu:j/p=u at*
   generalize hv:j%p=v at*
   generalize hS3:S.set 27 uz=S3 at*
   generalize hX:L++iq (Es kind first p j)=X at*
   generalize hK:k+j=K at*
   rcases q4 with ⟨rfl,rfl,hk0⟩ | ⟨b,rfl,vC,uC⟩
   ·clear hQ q7
    repeat' first |simp(maxSteps:=2000000) (disch:=omega) only[go_sem, *,Tryz.results210] | (first |apply fZ |apply fV |apply f_ |apply fW |apply fX |apply fY |apply ga |apply gd)<;>intro _ | (first |apply iz |apply iA |apply iB |apply iC)<;>intro _ |refine aK (id:=5) (L:=wN) (by kernel_rfl) (by kernel_rfl) ?_
    refine ih (n-(j+1)) _ _ _ (by omega) ⟨j+1,.slice (some ⟨n'+1,0,none⟩) 1 (aB+3),by omega,by omega,?_⟩
    clear ih
    rw[hnew,hrow,show k+(j+1)=1 by omega]
    clear hnew hrow
    simp(maxSteps:=2000000) (disch:=omega) only[go_sem, *]
    refine⟨by simp,?_,by omega,.inr ⟨n'+1,rfl,?_,by simp⟩,⟨n'+1,rfl,by omega,by omega⟩,fun b k c e=>by cases e;omega,fun i h1 h2 h3=>?_⟩
    ·(repeat refine bL.set' (by omega) ?_);first |assumption |exact bL.mono (by assumption) (by omega)
    ·simp(disch:=omega) only[go_sem]
    ·simp(disch:=omega) only[aE]
     exact q6 i h1 h2 h3
   ·have Vz:=q1.lt vC
    have amu:=q7 _ _ _ rfl
    clear q7
    have D2:X.take (K*3)=X:=by rw[←uC];exact List.take_length
    have hbq:(K*3).beq (K*3)=true:=Nat.beq_refl _
    have KN:(K+1).ble 1048576=true:=Nat.ble_eq_true_of_le (by omega)
    clear hQ
    repeat' first |simp(maxSteps:=2000000) (disch:=omega) only[go_sem, *,Tryz.results210] | (first |apply fZ |apply fV |apply f_ |apply fW |apply fX |apply fY |apply ga |apply gd)<;>intro _ | (first |apply iz |apply iA |apply iB |apply iC)<;>intro _ |refine aK (id:=5) (L:=wN) (by kernel_rfl) (by kernel_rfl) ?_
    refine ih (n-(j+1)) _ _ _ (by omega) ⟨j+1,.slice (some ⟨n'+1,0,none⟩) (K+1) (aB+3),by omega,by omega,?_⟩
    clear ih
    rw[hnew,hrow,show k+(j+1)=K+1 by omega]
    clear hnew hrow
    simp(maxSteps:=2000000) (disch:=omega) only[go_sem, *]
    refine⟨by simp,?_,by omega,.inr ⟨n'+1,rfl,?_,by simp[uC];omega⟩,⟨n'+1,rfl,by omega,by omega⟩,fun b k c e=>by cases e;omega,fun i h1 h2 h3=>?_⟩
    ·(repeat refine bL.set' (by omega) ?_);first |assumption |exact bL.mono (by assumption) (by omega)
    ·simp(disch:=omega) only[go_sem]
    ·have hib:i≠b:=by
      rcases q5 with ⟨e,_⟩ | ⟨b2,e,uC,_⟩
      ·intro e2;subst e2;exact h3 _ _ e.symm
      ·cases e;omega
     simp(disch:=omega) only[aE]
     exact q6 i h1 h2 h3
  ·obtain rfl:j=n:=by omega
   clear ih
   have RC: ¬ (j:Int)<j:=by omega
   repeat' first |simp(maxSteps:=2000000) (disch:=omega) only[go_sem, *,Tryz.results210] | (first |apply fZ |apply fV |apply f_ |apply fW |apply fX |apply fY |apply ga |apply gd)<;>intro _ | (first |apply iz |apply iA |apply iB |apply iC)<;>intro _ |refine aK (id:=5) (L:=wN) (by kernel_rfl) (by kernel_rfl) ?_
   exact⟨uz,rfl,q4,q5,q6⟩
end Go.Proofs.YtofmbmclopgldaaGreat
set_option linter.unusedVariables false
set_option linter.unusedSimpArgs false
namespace Go.Proofs.YtofmbmclopgldaaGreat
open Go.Am
noncomputable def Bq:List Value→Option (AP Value)
 | [.pointer (some ⟨lb,0,none⟩),.int .i64 n,.int .u8 kind,.int .i64 first,.int .i64 p]=>some <|
  AP.row lb fun (S:List Value) ro=>cond (!ro&&Nat.beq S.length 28&&decide (0≤n)&&decide (1≤p)&&decide (p≤1000000)&&decide (0≤first)&&decide (first≤1000000)) (match (S[27]? : Option Value) with
   |some (.slice none 0 0)=>cond (decide (n≤1000000)) (cond (decide (n=0)) (.pure (.int .i64 0)) (.newRow (iq (Es kind first p.toNat n.toNat)) fun g => .setRow lb (S.set 27 (.slice (some ⟨g,0,none⟩) n.toNat (aB+3))) (.pure (.int .i64 0)))) (.fail "")
   |some (.slice (some ⟨w,0,none⟩) k cap)=>AP.row w fun (L:List Value) wro=>
    cond (!wro&&Nat.beq cap (aB+3)&&Nat.beq L.length (k*3)&&decide ((k:Int)+n≤1000000) && !Nat.beq w lb) (cond (decide (n=0)) (.pure (.int .i64 k)) (.kill w (.newRow (L++iq (Es kind first p.toNat n.toNat)) fun g => .setRow lb (S.set 27 (.slice (some ⟨g,0,none⟩) (k+n.toNat) (aB+3))) (.pure (.int .i64 k))))) (.fail "")
   | _ => .fail "") (.fail "")
 | _=>none
theorem tN {I:Nat→Nat→Prop} {Old:Value→Prop}:∀ W:List (Int×Int×Int),bQ I Old (iq W) (iq W)
 | [] => .nil
 |x::W => .cons _ _ _ _ (.int _ _) (.cons _ _ _ _ (.int _ _) (.cons _ _ _ _ (.int _ _) (tN W)))
theorem yY {S:List Value} {i:Nat} {v:Value} (h:S[i]? = some v):S.set i v=S:=by
 apply List.ext_getElem?
 intro j
 rw[List.getElem?_set]
 split
 ·rename_i e;subst e
  rw[if_pos (List.getElem?_eq_some_iff.1 h).1];exact h.symm
 ·rfl
set_option maxRecDepth 100000 in
set_option maxHeartbeats 4000000 in
theorem Pm:bf Tryz.prog 210 Bq:=by
 refine sN (aN .nil) bA ?_
 intro args m hm h n N Old dB v h1 n1 hr hold hid hN
 unfold Bq at hm
 split at hm
 ·rename_i lb nn kind first p
  simp only[Option.some.injEq] at hm
  subst hm
  replace hr:=kE hr
  obtain⟨S,ro,hS,hr⟩:=hr
  replace hr:=cU hr
  obtain⟨hc,hr⟩:=hr
  simp only[Bool.and_eq_true,Bool.not_eq_true',decide_eq_true_eq] at hc
  obtain⟨⟨⟨⟨⟨⟨rfl,KO⟩,hn0⟩,hp1⟩,hp2⟩,hf1⟩,Uy⟩:=hc
  have KO:=Nat.eq_of_beq_eq_true KO
  obtain⟨nn,rfl⟩:=Int.eq_ofNat_of_zero_le hn0
  obtain⟨p,rfl⟩:=Int.eq_ofNat_of_zero_le (show 0≤p by omega)
  simp only[Int.toNat_natCast] at hr
  have hlt:∀ i B,h.get i=some B→i<N∧ ¬(n≤i∧i<n1):=fun i B e=>hid i (hold.id i B e)
  have hlb:=hlt _ _ hS
  have hW:bL h N:=bL.of_lt fun i B e=>(hlt i B e).1
  split at hr
  ·rename_i qI
   replace hr:=cU hr
   obtain⟨hk,hr⟩:=hr
   have hk:=of_decide_eq_true hk
   have Uz:=group (O:=eN []) lb S _ [] 0 nn p kind first h N hW hS KO qI (.inl ⟨rfl,rfl,rfl⟩) (fun b k c e=>by cases e) (by omega) (by omega) (by omega) hf1 Uy
   have jO:=yY qI
   by_cases hz:(nn:Int)=0
   ·obtain rfl:nn=0:=by omega
    rw[decide_eq_true hz,cond_true] at hr
    obtain⟨hs,rfl⟩:=run_pure hr
    clear hr
    have e1:h1=_:=congrArg HS.heap hs
    have e2:n1=_:=congrArg HS.next hs
    simp only[S0] at e1 e2
    subst e1 e2
    clear hs
    refine Uz.mono ?_
    rintro v2 h2 n2 ⟨rfl,uz,q1,q2,q3,q4⟩
    rcases q3 with ⟨rfl,_⟩ | ⟨b,rfl,hb,ach⟩
    ·refine⟨fun i=>i,fun i a b=>by omega,fun i j a b=>by omega,.int _ _,fun i B e => .inl ⟨e,?_⟩⟩
     rw[jO] at q1
     by_cases hi:i=lb
     ·subst hi;rw[hS] at e;rw[q1];exact e
     ·rw[q4 i (hlt i B e).1 hi (fun k c e=>by cases e)];exact e
    ·omega
   ·rw[decide_eq_false hz,cond_false] at hr
    replace hr:=run_set (oL hr)
    obtain⟨hs,rfl⟩:=run_pure hr
    clear hr
    have e1:h1=_:=congrArg HS.heap hs
    have e2:n1=_:=congrArg HS.next hs
    simp only[S0] at e1 e2
    subst e1 e2
    clear hs
    refine Uz.mono ?_
    rintro v2 h2 n2 ⟨rfl,uz,q1,q2,q3,q4⟩
    rcases q3 with ⟨_,rfl⟩ | ⟨b,rfl,hb,_⟩
    ·simp at hz
    rcases q2 with ⟨q2,_⟩ | ⟨b',e,q2,q2'⟩
    ·cases q2
    cases e
    refine⟨fun _=>b,fun i _ _=>hb,fun i j q1 q2 q3 q4 _=>by omega,.int _ _,fun i B e=>?_⟩
    have Pa:bQ (BV dB n (n+1) fun _=>b) Old S S:=bQ.refl _ fun u hu=>by
     obtain⟨j,hj⟩:=List.mem_iff_getElem?.1 hu
     exact .old _ (hold.cells lb _ _ j u hS (by rw[PT.aI];exact hj))
    have hnew:BV dB n (n+1) (fun _=>b) n b := .inr ⟨Nat.le_refl _,Nat.lt_succ_self _,rfl⟩
    rw[PT.aZ] at e
    split at e
    ·rename_i hi;subst hi
     obtain rfl:=Option.some.inj e
     refine .inr ⟨_,?_,.cells _ _ _ (Pa.set 27 (.slice n 0 nn (aB+3) b hnew))⟩
     rw[pN (by omega),q1,Nat.zero_add]
    ·rename_i hi
     rw[PT.aZ] at e
     split at e
     ·rename_i hi;subst hi
      obtain rfl:=Option.some.inj e
      refine .inr ⟨_,?_,.cells _ _ _ (tN _)⟩
      rw[sV (by omega),q2,List.nil_append]
     ·have:=(hlt i B e).1
      exact .inl ⟨e,by rw[q4 i this hi (fun k c e=>by cases e)];exact e⟩
  ·rename_i w k cap qI
   replace hr:=kE hr
   obtain⟨L,wro,hL,hr⟩:=hr
   replace hr:=cU hr
   obtain⟨hc,hr⟩:=hr
   simp only[Bool.and_eq_true,Bool.not_eq_true',decide_eq_true_eq] at hc
   obtain⟨⟨⟨⟨rfl,hcap⟩,Pn⟩,hkn⟩,ZX⟩:=hc
   obtain rfl:=Nat.eq_of_beq_eq_true hcap
   have Pn:=Nat.eq_of_beq_eq_true Pn
   have ZX:w≠lb:=fun e=>by rw[e,oJ] at ZX;simp at ZX
   have hw:=hlt _ _ hL
   have Uz:=group (O:=eN []) lb S _ L k nn p kind first h N hW hS KO qI (.inr ⟨w,rfl,hL,Pn⟩) (fun b k c e=>by cases e;exact ZX) (by omega) (by omega) (by omega) hf1 Uy
   have jO:=yY qI
   by_cases hz:(nn:Int)=0
   ·obtain rfl:nn=0:=by omega
    rw[decide_eq_true hz,cond_true] at hr
    obtain⟨hs,rfl⟩:=run_pure hr
    clear hr
    have e1:h1=_:=congrArg HS.heap hs
    have e2:n1=_:=congrArg HS.next hs
    simp only[S0] at e1 e2
    subst e1 e2
    clear hs
    refine Uz.mono ?_
    rintro v2 h2 n2 ⟨rfl,uz,q1,q2,q3,q4⟩
    rcases q3 with ⟨rfl,_⟩ | ⟨b,rfl,hb,ach⟩
    ·refine⟨fun i=>i,fun i a b=>by omega,fun i j a b=>by omega,.int _ _,fun i B e => .inl ⟨e,?_⟩⟩
     rw[jO] at q1
     rcases q2 with ⟨q2,_⟩ | ⟨b',e',q2,q2'⟩
     ·cases q2
     cases e'
     by_cases hi:i=lb
     ·subst hi;rw[hS] at e;rw[q1];exact e
     ·by_cases hi2:i=w
      ·subst hi2;rw[hL] at e;rw[q2,show iq (Es kind first p 0)=[] from rfl,List.append_nil];exact e
      ·rw[q4 i (hlt i B e).1 hi (fun k c e=>by cases e;exact hi2 rfl)];exact e
    ·omega
   ·rw[decide_eq_false hz,cond_false] at hr
    replace hr:=run_set (oL (yB hr))
    obtain⟨hs,rfl⟩:=run_pure hr
    clear hr
    have e1:h1=_:=congrArg HS.heap hs
    have e2:n1=_:=congrArg HS.next hs
    simp only[S0] at e1 e2
    subst e1 e2
    clear hs
    refine Uz.mono ?_
    rintro v2 h2 n2 ⟨rfl,uz,q1,q2,q3,q4⟩
    rcases q3 with ⟨_,rfl⟩ | ⟨b,rfl,hb,_⟩
    ·simp at hz
    rcases q2 with ⟨q2,_⟩ | ⟨b',e,q2,q2'⟩
    ·cases q2
    cases e
    refine⟨fun _=>b,fun i _ _=>hb,fun i j q1 q2 q3 q4 _=>by omega,.int _ _,fun i B e=>?_⟩
    have Pa:bQ (BV dB n (n+1) fun _=>b) Old S S:=bQ.refl _ fun u hu=>by
     obtain⟨j,hj⟩:=List.mem_iff_getElem?.1 hu
     exact .old _ (hold.cells lb _ _ j u hS (by rw[PT.aI];exact hj))
    have hLr:bQ (BV dB n (n+1) fun _=>b) Old L L:=bQ.refl _ fun u hu=>by
     obtain⟨j,hj⟩:=List.mem_iff_getElem?.1 hu
     exact .old _ (hold.cells w _ _ j u hL (by rw[PT.aI];exact hj))
    have hnew:BV dB n (n+1) (fun _=>b) n b := .inr ⟨Nat.le_refl _,Nat.lt_succ_self _,rfl⟩
    rw[PT.aZ] at e
    split at e
    ·rename_i hi;subst hi
     obtain rfl:=Option.some.inj e
     refine .inr ⟨_,?_,.cells _ _ _ (Pa.set 27 (.slice n 0 (k+nn) (aB+3) b hnew))⟩
     rw[pN (by omega),q1]
    ·rename_i hi
     rw[PT.aZ] at e
     split at e
     ·rename_i hi;subst hi
      obtain rfl:=Option.some.inj e
      refine .inr ⟨_,?_,.cells _ _ _ (hLr.append (tN _))⟩
      rw[sV (by omega),q2]
     ·rw[PT.aZ] at e
      split at e
      ·simp at e
      rename_i hi2
      have:=(hlt i B e).1
      exact .inl ⟨e,by rw[q4 i this hi (fun k c e=>by cases e;exact hi2 rfl)];exact e⟩
  ·exact(sW hr).elim
 ·simp at hm
end Go.Proofs.YtofmbmclopgldaaGreat
set_option linter.unusedVariables false
set_option linter.unusedSimpArgs false
namespace Go.Proofs.YtofmbmclopgldaaGreat
open Go.Am
structure GS (h3:PT ak) (n3 lb:Nat) (h:PT ak) (n:Nat) (wv:Value) (W:List (Int×Int×Int)):Prop where
 wf:bL h n
 le:n3≤n
 row:mY 3 h wv (iq W) W.length
 new:∀ b k c,wv = .slice (some ⟨b,0,none⟩) k c→n3≤b
 same:∀ i,i<n3→i≠lb→h.get i=h3.get i
theorem GS.len {h3 h:PT ak} {n3 lb n:Nat} {wv:Value} {W:List (Int×Int×Int)} (g:GS h3 n3 lb h n wv W):∃ a c,wv = .slice a W.length c:=by
 rcases g.row with ⟨e,_,e2⟩ | ⟨b,e,_,_⟩
 ·exact⟨none,0,by rw[e,e2]⟩
 ·exact⟨_,_,e⟩
theorem eM {α:Type}:∀ (p:AP α) (h:PT ak) (n:Nat) (rd wr:List Nat) (a:α) (s':HS),p.note ⟨h,n,rd,wr⟩ = .ok a s'→p.run 0 (S0 h n) = .ok a (S0 s'.heap s'.next)
 | .pure a,h,n,rd,wr,b,s',e=>by simp only[AP.note,aH.ok.injEq] at e;obtain⟨rfl,rfl⟩:=e;rfl
 | .fail w,h,n,rd,wr,b,s',e=>by simp[AP.note] at e
 | .get id k,h,n,rd,wr,b,s',e=>by
  simp only[AP.note] at e
  simp only[AP.run,show (S0 h n).heap=h from rfl,show Nat.blt id 0=false from rfl,cond_false]
  cases hb:h.get id with
  |none=>rw[hb] at e;simp at e
  |some B=>rw[hb] at e;exact eM (k B) h n _ _ b s' e
 | .set id B k,h,n,rd,wr,b,s',e=>by
  simp only[AP.note] at e
  simp only[AP.run,show (S0 h n).heap=h from rfl,show Nat.blt id 0=false from rfl,cond_false]
  cases hb:h.get id with
  |none=>rw[hb] at e;simp at e
  |some B'=>rw[hb] at e;exact eM k (h.set id (some B)) n _ _ b s' e
 | .kill id k,h,n,rd,wr,b,s',e=>by
  simp only[AP.note] at e
  simp only[AP.run,show (S0 h n).heap=h from rfl,show Nat.blt id 0=false from rfl,cond_false]
  cases hb:h.get id with
  |none=>rw[hb] at e;simp at e
  |some B'=>rw[hb] at e;exact eM k (h.set id none) n _ _ b s' e
 | .new B k,h,n,rd,wr,b,s',e=>by
  simp only[AP.note] at e
  exact eM (k n) (h.set n (some B)) (n+1) rd wr b s' e
end Go.Proofs.YtofmbmclopgldaaGreat
