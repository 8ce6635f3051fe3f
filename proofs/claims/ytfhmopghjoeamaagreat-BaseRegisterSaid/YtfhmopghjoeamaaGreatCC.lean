/-
  A part of the proof: contracts of inner functions.
-/
import Derived.Test.YtfhmopghjoeamaaGreatCC1
import Derived.Test.YtfhmopghjoeamaaGreatBX0
set_option linter.unusedVariables false
set_option linter.unusedSimpArgs false
namespace Go.Proofs.YtfhmopghjoeamaaGreat
open Go.Am
theorem KH {z:Zx} {X Xj R16 A Xk Xl L3 PS PU:Code} {K0:List KF} {P:Nat→Tm→PT aj→Nat→Prop} {j b1 b3:Nat} (ih:∀ t m h n,t<j→P t m h n→ez z (.loop (X.seq ((Code.block b1 (Xj.seq (R16.seq (A.seq (Xk.seq ((Xl.seq (.block b3 (.loop L3))).seq PS)))))).seq PU))) K0 m h n) (PR:Tm→PT aj→Nat→Prop) (hm:∀ m h n,PR m h n→ez z (.loop L3) (.block b3 :: .seq PS :: .block b1 :: .seq PU :: .loop (X.seq ((Code.block b1 (Xj.seq (R16.seq (A.seq (Xk.seq ((Xl.seq (.block b3 (.loop L3))).seq PS)))))).seq PU))::K0) m h n):∀ m h n,PR m h n→ez z (.loop L3) (.block b3 :: .seq PS :: .block b1 :: .seq PU :: .loop (X.seq ((Code.block b1 (Xj.seq (R16.seq (A.seq (Xk.seq ((Xl.seq (.block b3 (.loop L3))).seq PS)))))).seq PU))::K0) m h n:=hm
theorem PV (T:Int):∃ j:Nat,j<6∧(T.tmod 6+6).tmod 6=(j:Int) ∧ -6<T.tmod 6∧T.tmod 6<6:=by
 have h1:=Int.tmod_lt_of_pos (T.tmod 6+6) (show (0:Int)<6 by decide)
 have h2 : -6<T.tmod 6:=Int.lt_tmod_of_pos T (by decide)
 have h3:=Int.tmod_nonneg (6:Int) (show 0≤T.tmod 6+6 by omega)
 exact⟨((T.tmod 6+6).tmod 6).toNat,by omega,by omega,h2,Int.tmod_lt_of_pos T (by decide)⟩
theorem Ii {K:List Int} {i m:Nat} {x:Int} (hl:K.length=m+1) (hi:i≤m) (hx:K.getD i 0=x):(K.map (Value.int .i64))[i]? = some (I6 x):=by
 have:i<K.length:=by omega
 rw[List.getElem?_map,←hx]
 simp[List.getD,this]
theorem Bs.kind {h1 h:PT aj} {n1 n lb:Nat} {l:bZ} {mk ev:Value} {p5 p6 k:Nat} {d:Rl→Nat} {C:Rl→Option aj} {K0:List Int} {b:Int} {i:Nat} {x:Int} (H:Bs h1 n1 lb l mk ev p5 p6 b k (K0.set i x) d C h n) (hc:C (94,0)=row (K0.map (.int .i64))):
  ∃ C',C' (94,0)=row ((K0.set i x).map (.int .i64))∧Bs h1 n1 lb l mk ev p5 p6 b k (K0.set i x) d C' (h.set (d (94,0)) (row ((K0.map (.int .i64)).set i (I6 x)))) n:=by
 have:=H.setRow (a:=94) (by omega) (.cells (PT.ofList .leaf 0 ((K0.set i x).map (.int .i64))) false) hc
 rw[List.map_set] at this
 exact⟨_,by rw[au,List.map_set],this⟩
theorem mZ:(true==true)=true:=rfl
theorem m_:(true==false)=false:=rfl
theorem ng:(false==true)=false:=rfl
theorem nh:(false==false)=true:=rfl
set_option maxRecDepth 100000 in
set_option maxHeartbeats 16000000 in
theorem AK (th sl en bu kd dn t0 t1 t2 t3 t4 t5 lo tr ba:Int) {a:Option Addr} {len cap:Nat} {xs:List Int} {s:Value} {A:List (List Int)} {q:Nat} (h:PT aj) (N:Nat) (hW:bX h N) (hs:aS .u64 h (.slice a len cap) xs) (hl:xs.length<1000000000000000) (hA:nR [.int .u8,.int .i64] h q s A):
  cT Tryz.prog OB 5 [.agg ⟨[I6 th,I6 sl,U8 en,I6 bu,U8 kd,I6 dn,.slice a len cap,I6 t0,I6 t1,I6 t2,I6 t3,I6 t4,I6 t5,I6 lo,I6 tr,I6 ba]⟩,s] h N fun v h' n'=>v = .bool true:=by
 obtain⟨a2,c2,rfl⟩:∃ a2 c2,s = .slice a2 A.length c2:=by
  rcases hA.2 with ⟨rfl,rfl⟩ | ⟨cp,rfl,-⟩
  ·exact⟨none,0,rfl⟩
  ·exact⟨_,_,rfl⟩
 refine aB (N:=231) Tryz.func5 rfl rfl fun z hP hO hro hN hQ=>?_
 repeat' first |simp(maxSteps:=2000000) (disch:=first |omega | (repeat first |assumption |exact Kept.refl _ |refine Kept.set' (by assumption) ?_ ?_ |refine Kept.set (by assumption) ?_ ?_ |omega)) only[go_sem, *] | (apply xs<;>intro _)<;>try omega |refine fun (_ _:List Nat)=>?_ | (first |refine aC Tryz.func29 rfl ?_ ?_ ?_ ?_ |refine aC Tryz.func22 rfl ?_ ?_ ?_ ?_ |refine aC Tryz.func27 rfl ?_ ?_ ?_ ?_ |refine aC Tryz.func17 rfl ?_ ?_ ?_ ?_ |fail)<;>intros
 generalize hh0:h.set N _=h0
 have e0:h0.get N=row (PN th sl en bu kd dn t0 t1 t2 t3 t4 t5 lo tr ba (.slice a len cap)):=by rw[←hh0];exact bS
 have hW0:bX h0 (N+1):=by rw[←hh0];exact hW.set (Nat.le_succ _) (Nat.lt_succ_self _)
 have k0:Kept h h0:=by rw[←hh0];exact hW.kept (Nat.le_refl _)
 have Ew:=hA.keep k0
 have hs0:=hs.keep k0
 clear hh0
 unfold PN at e0
 refine fL (KE (O:=OB) th sl en bu kd dn t0 t1 t2 t3 t4 t5 lo tr ba h0 (N+1) hW0) (by simp only[*]) (by simp only[*]) (by simp only[go_sem, *]) (by simp only[go_sem, *]) ?_
 rintro v h1 n1 ⟨⟨b,rfl⟩,k1,Kh,hn1⟩
 have e1:=k1 _ _ e0
 have OE:=Ew.keep k1
 have hs1:=hs0.keep k1
 clear hA Ew hs hs0 e0
 cases b with
 |false=>
  repeat' first |simp(maxSteps:=2000000) (disch:=first |omega | (repeat first |assumption |exact Kept.refl _ |refine Kept.set' (by assumption) ?_ ?_ |refine Kept.set (by assumption) ?_ ?_ |omega)) only[go_sem, *] | (apply xs<;>intro _)<;>try omega |refine fun (_ _:List Nat)=>?_ | (first |refine aC Tryz.func29 rfl ?_ ?_ ?_ ?_ |refine aC Tryz.func22 rfl ?_ ?_ ?_ ?_ |refine aC Tryz.func27 rfl ?_ ?_ ?_ ?_ |refine aC Tryz.func17 rfl ?_ ?_ ?_ ?_ |fail)<;>intros
 |true=>
  by_cases V0:300<A.length
  ·have hl4:(300:Int)<(A.length:Int):=by omega
   repeat' first |simp(maxSteps:=2000000) (disch:=first |omega | (repeat first |assumption |exact Kept.refl _ |refine Kept.set' (by assumption) ?_ ?_ |refine Kept.set (by assumption) ?_ ?_ |omega)) only[go_sem, *] | (apply xs<;>intro _)<;>try omega |refine fun (_ _:List Nat)=>?_ | (first |refine aC Tryz.func29 rfl ?_ ?_ ?_ ?_ |refine aC Tryz.func22 rfl ?_ ?_ ?_ ?_ |refine aC Tryz.func27 rfl ?_ ?_ ?_ ?_ |refine aC Tryz.func17 rfl ?_ ?_ ?_ ?_ |fail)<;>intros
  have hl4: ¬ (300:Int)<(A.length:Int):=by omega
  repeat' first |simp(maxSteps:=2000000) (disch:=first |omega | (repeat first |assumption |exact Kept.refl _ |refine Kept.set' (by assumption) ?_ ?_ |refine Kept.set (by assumption) ?_ ?_ |omega)) only[go_sem, *] | (apply xs<;>intro _)<;>try omega |refine fun (_ _:List Nat)=>?_ | (first |refine aC Tryz.func29 rfl ?_ ?_ ?_ ?_ |refine aC Tryz.func22 rfl ?_ ?_ ?_ ?_ |refine aC Tryz.func27 rfl ?_ ?_ ?_ ?_ |refine aC Tryz.func17 rfl ?_ ?_ ?_ ?_ |fail)<;>intros
  refine fL (WL th sl en bu kd dn t0 t1 t2 t3 t4 t5 lo tr ba (.slice a len cap) xs h1 n1 Kh hs1 hl) (by simp only[*]) (by simp only[*]) (by simp only[go_sem, *]) (by simp only[go_sem, *]) ?_
  rintro v h2 n2 (⟨-,rfl,k2,Du⟩ | ⟨h3,n3,lb,l,gb,cv,sz,d,C,rfl,k2,Xm,hL,uI,S,F⟩)
  ·repeat' first |simp(maxSteps:=2000000) (disch:=first |omega | (repeat first |assumption |exact Kept.refl _ |refine Kept.set' (by assumption) ?_ ?_ |refine Kept.set (by assumption) ?_ ?_ |omega)) only[go_sem, *,rZ] | (apply xs<;>intro _)<;>try omega |refine fun (_ _:List Nat)=>?_ | (first |refine aC Tryz.func29 rfl ?_ ?_ ?_ ?_ |refine aC Tryz.func22 rfl ?_ ?_ ?_ ?_ |refine aC Tryz.func27 rfl ?_ ?_ ?_ ?_ |refine aC Tryz.func17 rfl ?_ ?_ ?_ ?_ |fail)<;>intros
  ·have hl0:=hL.look
   have hrl:=fun h' hk z f d ops r K m n=>@dg _ _ _ _ h' hl0 z f d ops r K m n hk
   have hH4:l.H.length≤1024:=uI.L5.len
   have hbd:=uI.L5.bd
   obtain⟨p5,p6,B0⟩:=Bs.start S F hl0 uI
   have F1:Kept h1 h3:=k2
   have hA3:=OE.keep k2
   have kf:=F.fz.kept S
   have n32:n3≤n2:=by
    have:=F.fz.lo _ _ (by decide) F.mem.mem
    have:=S.lt F.mem.mem
    omega
   have gb:=S.at F.obj.base
   have nb:=S.lt F.obj.base
   have Tf:Nat.ble (l.H.length+1) 1048576=true:=Nat.ble_eq_true_of_le (by omega)
   have hH5: ¬ (1024:Int)<(l.H.length:Int):=by omega
   have hH6: ¬ (l.H.length:Int)<0:=by omega
   have hH7:(l.H.length:Int)+1=((l.H.length+1:Nat):Int):=by omega
   have hz:=ug (l.H.length+1)
   clear uI hL OE hs1 e1
   repeat' first |simp(maxSteps:=2000000) (disch:=first |omega | (repeat first |assumption |exact Kept.refl _ |refine Kept.set' (by assumption) ?_ ?_ |refine Kept.set (by assumption) ?_ ?_ |omega)) only[go_sem, *,jy] | (apply xs<;>intro _)<;>try omega |refine fun (_ _:List Nat)=>?_ | (first |refine aC Tryz.func29 rfl ?_ ?_ ?_ ?_ |refine aC Tryz.func22 rfl ?_ ?_ ?_ ?_ |refine aC Tryz.func27 rfl ?_ ?_ ?_ ?_ |refine aC Tryz.func17 rfl ?_ ?_ ?_ ?_ |fail)<;>intros
   have B1:=B0.newRow (a:=94) (by omega) (.cells (PT.ofList .leaf 0 ((List.replicate (l.H.length+1) (0:Int)).map (.int .i64))) false) (Nat.le_refl n2) (Nat.lt_succ_self _)
   generalize sK:h2.set n2 _=h4
   have hh5:h2.set n2 (some (.cells (PT.ofList .leaf 0 ((List.replicate (l.H.length+1) (0:Int)).map (.int .i64))) false))=h4:=by rw[←sK,←ug];rfl
   rw[hh5] at B1
   obtain⟨d4,C4,K0,d94,d70,cK0,B2⟩:∃ (d4:Rl→Nat) (C4:Rl→Option aj) (K0:List Int),d4 (94,0)=n2∧d4 (70,0)=d (70,0)∧C4 (94,0)=row (K0.map (.int .i64))∧Bs h3 n3 lb l (.slice none 0 0) (.slice none 0 0) p5 p6 0 0 K0 d4 C4 h4 (n2+1):=⟨_,_,_,au,aq (by decide),au,B1⟩
   clear B1 sK hh5
   clear B0 gb nb kf S F hz Tf hH5 hH6
   refine cU (fun t m h' n'=>∃ (i k:Nat) (b:Int) (K:List Int) (d:Rl→Nat) (C:Rl→Option aj),i≤A.length∧t=A.length-i∧m.n=231∧m.fO=[]∧m.get 1 = .slice a2 A.length c2∧m.get 5=pt (d (70,0))∧m.get 7=I6 l.H.length∧m.get 8 = .slice (some ⟨d (94,0),0,none⟩) (l.H.length+1) (l.H.length+1)∧m.get 9=I6 i∧b≤i∧k≤3*i∧C (94,0)=row (K.map (.int .i64))∧Bs h3 n3 lb l (.slice none 0 0) (.slice none 0 0) p5 p6 b k K d C h' n') A.length ?_ ?_
   ·refine⟨0,0,0,K0,d4,C4,by omega,by omega,?_⟩
    simp(maxSteps:=2000000) (disch:=first |omega | (repeat first |assumption |exact Kept.refl _ |refine Kept.set' (by assumption) ?_ ?_ |refine Kept.set (by assumption) ?_ ?_ |omega)) only[go_sem, *]
   ·clear B2 cK0 d94 d70
    rintro t m h' n' ih ⟨i,k,b,K,d,C,hi,rfl,q1,q2,q3,q4,q5,q6,q7,q8,q9,gT,B⟩
    have gk:=B.st.2.1.at gT
    have nk:=B.st.2.1.lt gT
    have kf:=F1.trans (B.st.2.2.1.kept B.st.2.1)
    have GI:=B.st.2.2.2.1
    by_cases hlt:i<A.length
    ·have e7:(i:Int)<A.length:=by omega
     rcases hA3.2 with ⟨-,rfl⟩ | ⟨cp,hsl,-,-,gA⟩
     ·simp at hlt
     injection hsl with z1 z2 z3
     subst z1 z3
     obtain⟨v0,v1,v2,v3⟩:=moves hA3.1 hlt
     have gA2:=(B.st.2.2.1.kept B.st.2.1) _ _ gA
     generalize eO [.int .u8,.int .i64] A=ra at*
     generalize mT A i=T at*
     generalize mW A i=w at*
     have mid:=KH ih (fun m' h' n'=>∃ (k:Nat) (b:Int) (K:List Int) (d:Rl→Nat) (C:Rl→Option aj),m'.n=231∧m'.fO=[]∧m'.get 1 = .slice (some ⟨q,0,none⟩) A.length c2∧m'.get 5=pt (d (70,0))∧m'.get 7=I6 l.H.length∧m'.get 8 = .slice (some ⟨d (94,0),0,none⟩) (l.H.length+1) (l.H.length+1)∧m'.get 9=I6 i∧m'.get 16 = .slice none 0 0∧m'.get 17 = .slice none 0 0∧m'.get 18 = .slice none 0 0∧m'.get 19=I6 1∧b≤i+1∧k≤3*(i+1)∧C (94,0)=row (K.map (.int .i64))∧Bs h3 n3 lb l (.slice none 0 0) (.slice none 0 0) p5 p6 b k K d C h' n') ?_
     ·by_cases m0:w.tmod 4=0
      ·obtain⟨j,hj,ej,ej1,ej2⟩:=PV T
       have hB:=B.take (by omega) hj
       rw[Int.add_comm (j:Int) 1] at hB
       have h3:(1≤T∧T≤l.H.length)∨(¬1≤T∧T≤l.H.length)∨(1≤T∧ ¬T≤l.H.length):=by omega
       rcases h3 with ⟨zi,y_⟩ | ⟨zi,y_⟩ | ⟨zi,y_⟩
       all_goals
        repeat' first |simp(maxSteps:=2000000) (disch:=first |omega | (repeat first |assumption |exact Kept.refl _ |refine Kept.set' (by assumption) ?_ ?_ |refine Kept.set (by assumption) ?_ ?_ |omega)) only[go_sem, *] | (apply xs<;>intro _)<;>try omega |refine fun (_ _:List Nat)=>?_ | (first |refine aC Tryz.func29 rfl ?_ ?_ ?_ ?_ |refine aC Tryz.func22 rfl ?_ ?_ ?_ ?_ |refine aC Tryz.func27 rfl ?_ ?_ ?_ ?_ |refine aC Tryz.func17 rfl ?_ ?_ ?_ ?_ |fail)<;>intros
        refine fL (hB) (by simp only[*]) (by simp only[*]) (by simp only[go_sem, *]) (by simp only[go_sem, *]) ?_
        rintro v h5 n5 ⟨a,k',d5,C5,rfl,hk',⟨o1,o2⟩,ha,KI,B5⟩
        have yy:=o2 94 (by omega) (by omega)
        have GJ:=F1.trans (B5.st.2.2.1.kept B5.st.2.1)
        have qW:=yy.1
        rw[←yy.2] at gT
        clear hB gk nk kf B ih yy o2
        have gk:=B5.st.2.1.at gT
        have nk:=B5.st.2.1.lt gT
        rw[qW] at gk nk
        by_cases ha0:a=0
        ·subst ha0
         rw[if_pos rfl] at B5
         repeat' first |simp(maxSteps:=2000000) (disch:=first |omega | (repeat first |assumption |exact Kept.refl _ |refine Kept.set' (by assumption) ?_ ?_ |refine Kept.set (by assumption) ?_ ?_ |omega)) only[go_sem, *] | (apply xs<;>intro _)<;>try omega |refine fun (_ _:List Nat)=>?_ | (first |refine aC Tryz.func29 rfl ?_ ?_ ?_ ?_ |refine aC Tryz.func22 rfl ?_ ?_ ?_ ?_ |refine aC Tryz.func27 rfl ?_ ?_ ?_ ?_ |refine aC Tryz.func17 rfl ?_ ?_ ?_ ?_ |fail)<;>intros
         refine mid _ _ _ ⟨k',b,K,d5,C5,?_⟩
         simp(maxSteps:=2000000) (disch:=first |omega | (repeat first |assumption |exact Kept.refl _ |refine Kept.set' (by assumption) ?_ ?_ |refine Kept.set (by assumption) ?_ ?_ |omega)) only[go_sem, *]
         exact⟨by omega,by omega⟩
        ·rw[if_neg ha0] at B5
         have PZ: ¬ (a:Int)<0:=by omega
         have XB: ¬ (l.H.length:Int)<a:=by omega
         have ha3:(a:Int)<((l.H.length+1:Nat):Int):=by omega
         have ha4: ¬ (a:Int)=0:=by omega
         have DY:=Ii GI ha KI
         repeat' first |simp(maxSteps:=2000000) (disch:=first |omega | (repeat first |assumption |exact Kept.refl _ |refine Kept.set' (by assumption) ?_ ?_ |refine Kept.set (by assumption) ?_ ?_ |omega)) only[go_sem, *] | (apply xs<;>intro _)<;>try omega |refine fun (_ _:List Nat)=>?_ | (first |refine aC Tryz.func29 rfl ?_ ?_ ?_ ?_ |refine aC Tryz.func22 rfl ?_ ?_ ?_ ?_ |refine aC Tryz.func27 rfl ?_ ?_ ?_ ?_ |refine aC Tryz.func17 rfl ?_ ?_ ?_ ?_ |fail)<;>intros
         obtain⟨C6,c6,B6⟩:=B5.kind gT
         rw[qW] at B6
         refine mid _ _ _ ⟨k',b,K.set a 1,d5,C6,?_⟩
         simp(maxSteps:=2000000) (disch:=first |omega | (repeat first |assumption |exact Kept.refl _ |refine Kept.set' (by assumption) ?_ ?_ |refine Kept.set (by assumption) ?_ ?_ |omega)) only[go_sem, *]
         exact⟨by omega,by omega⟩
      ·by_cases m1:w.tmod 4=1
       ·have hB:=B.link T
        by_cases hin:1≤T∧T≤(l.H.length:Int)
        ·obtain⟨zi,y_⟩:=hin
         obtain⟨u,rfl⟩:=Int.eq_ofNat_of_zero_le (show 0≤T by omega)
         rw[Int.toNat_natCast] at hB
         have Xm: ¬ (l.H.length:Int)<u:=by omega
         have WM:(u:Int)>0:=by omega
         have Tt:(u:Int)<((l.H.length+1:Nat):Int):=by omega
         have WN: ¬ (u:Int)=0:=by omega
         repeat' first |simp(maxSteps:=2000000) (disch:=first |omega | (repeat first |assumption |exact Kept.refl _ |refine Kept.set' (by assumption) ?_ ?_ |refine Kept.set (by assumption) ?_ ?_ |omega)) only[go_sem, *] | (apply xs<;>intro _)<;>try omega |refine fun (_ _:List Nat)=>?_ | (first |refine aC Tryz.func29 rfl ?_ ?_ ?_ ?_ |refine aC Tryz.func22 rfl ?_ ?_ ?_ ?_ |refine aC Tryz.func27 rfl ?_ ?_ ?_ ?_ |refine aC Tryz.func17 rfl ?_ ?_ ?_ ?_ |fail)<;>intros
         refine fL (hB) (by simp only[*]) (by simp only[*]) (by simp only[go_sem, *]) (by simp only[go_sem, *]) ?_
         rintro v h5 n5 (⟨rfl,-,KI,d5,C5,⟨o1,o2⟩,B5⟩ | ⟨e,he,rfl,hno,B5⟩)
         ·have DY:=Ii GI (show u≤l.H.length by omega) KI
          have yy:=o2 94 (by omega) (by omega)
          have GJ:=F1.trans (B5.st.2.2.1.kept B5.st.2.1)
          have qW:=yy.1
          rw[←yy.2] at gT
          clear hB gk nk kf B ih yy o2
          have gk:=B5.st.2.1.at gT
          have nk:=B5.st.2.1.lt gT
          rw[qW] at gk nk
          repeat' first |simp(maxSteps:=2000000) (disch:=first |omega | (repeat first |assumption |exact Kept.refl _ |refine Kept.set' (by assumption) ?_ ?_ |refine Kept.set (by assumption) ?_ ?_ |omega)) only[go_sem, *,mZ,m_,ng,nh] | (apply xs<;>intro _)<;>try omega |refine fun (_ _:List Nat)=>?_ | (first |refine aC Tryz.func29 rfl ?_ ?_ ?_ ?_ |refine aC Tryz.func22 rfl ?_ ?_ ?_ ?_ |refine aC Tryz.func27 rfl ?_ ?_ ?_ ?_ |refine aC Tryz.func17 rfl ?_ ?_ ?_ ?_ |fail)<;>intros
          obtain⟨C6,c6,B6⟩:=B5.kind gT
          rw[qW] at B6
          refine mid _ _ _ ⟨k,b,K.set u 2,d5,C6,?_⟩
          simp(maxSteps:=2000000) (disch:=first |omega | (repeat first |assumption |exact Kept.refl _ |refine Kept.set' (by assumption) ?_ ?_ |refine Kept.set (by assumption) ?_ ?_ |omega)) only[go_sem, *]
          exact⟨by omega,by omega⟩
         ·have hKb: ¬ K.getD u 0=1:=fun c=>hno ⟨⟨zi,y_⟩,c⟩
          have DY:=Ii GI (show u≤l.H.length by omega) (rfl:K.getD u 0=K.getD u 0)
          generalize K.getD u 0=y at DY hKb
          have GJ:=F1.trans (B5.st.2.2.1.kept B5.st.2.1)
          clear hB gk nk kf B ih
          have gk:=B5.st.2.1.at gT
          have nk:=B5.st.2.1.lt gT
          repeat' first |simp(maxSteps:=2000000) (disch:=first |omega | (repeat first |assumption |exact Kept.refl _ |refine Kept.set' (by assumption) ?_ ?_ |refine Kept.set (by assumption) ?_ ?_ |omega)) only[go_sem, *,mZ,m_,ng,nh] | (apply xs<;>intro _)<;>try omega |refine fun (_ _:List Nat)=>?_ | (first |refine aC Tryz.func29 rfl ?_ ?_ ?_ ?_ |refine aC Tryz.func22 rfl ?_ ?_ ?_ ?_ |refine aC Tryz.func27 rfl ?_ ?_ ?_ ?_ |refine aC Tryz.func17 rfl ?_ ?_ ?_ ?_ |fail)<;>intros
          refine mid _ _ _ ⟨k,b,K,d,C,?_⟩
          simp(maxSteps:=2000000) (disch:=first |omega | (repeat first |assumption |exact Kept.refl _ |refine Kept.set' (by assumption) ?_ ?_ |refine Kept.set (by assumption) ?_ ?_ |omega)) only[go_sem, *]
          exact⟨by omega,by omega⟩
        ·have h3: ¬ 1≤T∨(1≤T∧ ¬T≤(l.H.length:Int)):=by omega
         rcases h3 with zi | ⟨zi,y_⟩
         all_goals
          repeat' first |simp(maxSteps:=2000000) (disch:=first |omega | (repeat first |assumption |exact Kept.refl _ |refine Kept.set' (by assumption) ?_ ?_ |refine Kept.set (by assumption) ?_ ?_ |omega)) only[go_sem, *] | (apply xs<;>intro _)<;>try omega |refine fun (_ _:List Nat)=>?_ | (first |refine aC Tryz.func29 rfl ?_ ?_ ?_ ?_ |refine aC Tryz.func22 rfl ?_ ?_ ?_ ?_ |refine aC Tryz.func27 rfl ?_ ?_ ?_ ?_ |refine aC Tryz.func17 rfl ?_ ?_ ?_ ?_ |fail)<;>intros
          refine fL (hB) (by simp only[*]) (by simp only[*]) (by simp only[go_sem, *]) (by simp only[go_sem, *]) ?_
          rintro v h5 n5 (⟨rfl,c,-⟩ | ⟨e,he,rfl,hno,B5⟩)
          ·exact absurd c hin
          ·have he2: ¬ e=0:=he
           have GJ:=F1.trans (B5.st.2.2.1.kept B5.st.2.1)
           clear hB gk nk kf B ih
           have gk:=B5.st.2.1.at gT
           have nk:=B5.st.2.1.lt gT
           repeat' first |simp(maxSteps:=2000000) (disch:=first |omega | (repeat first |assumption |exact Kept.refl _ |refine Kept.set' (by assumption) ?_ ?_ |refine Kept.set (by assumption) ?_ ?_ |omega)) only[go_sem, *,mZ,m_,ng,nh] | (apply xs<;>intro _)<;>try omega |refine fun (_ _:List Nat)=>?_ | (first |refine aC Tryz.func29 rfl ?_ ?_ ?_ ?_ |refine aC Tryz.func22 rfl ?_ ?_ ?_ ?_ |refine aC Tryz.func27 rfl ?_ ?_ ?_ ?_ |refine aC Tryz.func17 rfl ?_ ?_ ?_ ?_ |fail)<;>intros
           refine mid _ _ _ ⟨k,b,K,d,C,?_⟩
           simp(maxSteps:=2000000) (disch:=first |omega | (repeat first |assumption |exact Kept.refl _ |refine Kept.set' (by assumption) ?_ ?_ |refine Kept.set (by assumption) ?_ ?_ |omega)) only[go_sem, *]
           exact⟨by omega,by omega⟩
       ·by_cases m2:w.tmod 4=2
        ·have hB:=B.unlink T
         by_cases hin:1≤T∧T≤(l.H.length:Int)
         ·obtain⟨zi,y_⟩:=hin
          obtain⟨u,rfl⟩:=Int.eq_ofNat_of_zero_le (show 0≤T by omega)
          rw[Int.toNat_natCast] at hB
          have Xm: ¬ (l.H.length:Int)<u:=by omega
          have WM:(u:Int)>0:=by omega
          have Tt:(u:Int)<((l.H.length+1:Nat):Int):=by omega
          have WN: ¬ (u:Int)=0:=by omega
          repeat' first |simp(maxSteps:=2000000) (disch:=first |omega | (repeat first |assumption |exact Kept.refl _ |refine Kept.set' (by assumption) ?_ ?_ |refine Kept.set (by assumption) ?_ ?_ |omega)) only[go_sem, *] | (apply xs<;>intro _)<;>try omega |refine fun (_ _:List Nat)=>?_ | (first |refine aC Tryz.func29 rfl ?_ ?_ ?_ ?_ |refine aC Tryz.func22 rfl ?_ ?_ ?_ ?_ |refine aC Tryz.func27 rfl ?_ ?_ ?_ ?_ |refine aC Tryz.func17 rfl ?_ ?_ ?_ ?_ |fail)<;>intros
          refine fL (hB) (by simp only[*]) (by simp only[*]) (by simp only[go_sem, *]) (by simp only[go_sem, *]) ?_
          rintro v h5 n5 (⟨rfl,-,KI,d5,C5,⟨o1,o2⟩,B5⟩ | ⟨e,he,rfl,hno,B5⟩)
          ·have DY:=Ii GI (show u≤l.H.length by omega) KI
           have yy:=o2 94 (by omega) (by omega)
           have GJ:=F1.trans (B5.st.2.2.1.kept B5.st.2.1)
           have qW:=yy.1
           rw[←yy.2] at gT
           clear hB gk nk kf B ih yy o2
           have gk:=B5.st.2.1.at gT
           have nk:=B5.st.2.1.lt gT
           rw[qW] at gk nk
           repeat' first |simp(maxSteps:=2000000) (disch:=first |omega | (repeat first |assumption |exact Kept.refl _ |refine Kept.set' (by assumption) ?_ ?_ |refine Kept.set (by assumption) ?_ ?_ |omega)) only[go_sem, *,mZ,m_,ng,nh] | (apply xs<;>intro _)<;>try omega |refine fun (_ _:List Nat)=>?_ | (first |refine aC Tryz.func29 rfl ?_ ?_ ?_ ?_ |refine aC Tryz.func22 rfl ?_ ?_ ?_ ?_ |refine aC Tryz.func27 rfl ?_ ?_ ?_ ?_ |refine aC Tryz.func17 rfl ?_ ?_ ?_ ?_ |fail)<;>intros
           obtain⟨C6,c6,B6⟩:=B5.kind gT
           rw[qW] at B6
           refine mid _ _ _ ⟨k,b,K.set u 3,d5,C6,?_⟩
           simp(maxSteps:=2000000) (disch:=first |omega | (repeat first |assumption |exact Kept.refl _ |refine Kept.set' (by assumption) ?_ ?_ |refine Kept.set (by assumption) ?_ ?_ |omega)) only[go_sem, *]
           exact⟨by omega,by omega⟩
          ·have hKb: ¬ K.getD u 0=2:=fun c=>hno ⟨⟨zi,y_⟩,c⟩
           have DY:=Ii GI (show u≤l.H.length by omega) (rfl:K.getD u 0=K.getD u 0)
           generalize K.getD u 0=y at DY hKb
           have GJ:=F1.trans (B5.st.2.2.1.kept B5.st.2.1)
           clear hB gk nk kf B ih
           have gk:=B5.st.2.1.at gT
           have nk:=B5.st.2.1.lt gT
           repeat' first |simp(maxSteps:=2000000) (disch:=first |omega | (repeat first |assumption |exact Kept.refl _ |refine Kept.set' (by assumption) ?_ ?_ |refine Kept.set (by assumption) ?_ ?_ |omega)) only[go_sem, *,mZ,m_,ng,nh] | (apply xs<;>intro _)<;>try omega |refine fun (_ _:List Nat)=>?_ | (first |refine aC Tryz.func29 rfl ?_ ?_ ?_ ?_ |refine aC Tryz.func22 rfl ?_ ?_ ?_ ?_ |refine aC Tryz.func27 rfl ?_ ?_ ?_ ?_ |refine aC Tryz.func17 rfl ?_ ?_ ?_ ?_ |fail)<;>intros
           refine mid _ _ _ ⟨k,b,K,d,C,?_⟩
           simp(maxSteps:=2000000) (disch:=first |omega | (repeat first |assumption |exact Kept.refl _ |refine Kept.set' (by assumption) ?_ ?_ |refine Kept.set (by assumption) ?_ ?_ |omega)) only[go_sem, *]
           exact⟨by omega,by omega⟩
         ·have h3: ¬ 1≤T∨(1≤T∧ ¬T≤(l.H.length:Int)):=by omega
          rcases h3 with zi | ⟨zi,y_⟩
          all_goals
           repeat' first |simp(maxSteps:=2000000) (disch:=first |omega | (repeat first |assumption |exact Kept.refl _ |refine Kept.set' (by assumption) ?_ ?_ |refine Kept.set (by assumption) ?_ ?_ |omega)) only[go_sem, *] | (apply xs<;>intro _)<;>try omega |refine fun (_ _:List Nat)=>?_ | (first |refine aC Tryz.func29 rfl ?_ ?_ ?_ ?_ |refine aC Tryz.func22 rfl ?_ ?_ ?_ ?_ |refine aC Tryz.func27 rfl ?_ ?_ ?_ ?_ |refine aC Tryz.func17 rfl ?_ ?_ ?_ ?_ |fail)<;>intros
           refine fL (hB) (by simp only[*]) (by simp only[*]) (by simp only[go_sem, *]) (by simp only[go_sem, *]) ?_
           rintro v h5 n5 (⟨rfl,c,-⟩ | ⟨e,he,rfl,hno,B5⟩)
           ·exact absurd c hin
           ·have he2: ¬ e=0:=he
            have GJ:=F1.trans (B5.st.2.2.1.kept B5.st.2.1)
            clear hB gk nk kf B ih
            have gk:=B5.st.2.1.at gT
            have nk:=B5.st.2.1.lt gT
            repeat' first |simp(maxSteps:=2000000) (disch:=first |omega | (repeat first |assumption |exact Kept.refl _ |refine Kept.set' (by assumption) ?_ ?_ |refine Kept.set (by assumption) ?_ ?_ |omega)) only[go_sem, *,mZ,m_,ng,nh] | (apply xs<;>intro _)<;>try omega |refine fun (_ _:List Nat)=>?_ | (first |refine aC Tryz.func29 rfl ?_ ?_ ?_ ?_ |refine aC Tryz.func22 rfl ?_ ?_ ?_ ?_ |refine aC Tryz.func27 rfl ?_ ?_ ?_ ?_ |refine aC Tryz.func17 rfl ?_ ?_ ?_ ?_ |fail)<;>intros
            refine mid _ _ _ ⟨k,b,K,d,C,?_⟩
            simp(maxSteps:=2000000) (disch:=first |omega | (repeat first |assumption |exact Kept.refl _ |refine Kept.set' (by assumption) ?_ ?_ |refine Kept.set (by assumption) ?_ ?_ |omega)) only[go_sem, *]
            exact⟨by omega,by omega⟩
        ·have hB:=B.back (by omega) (by omega) hbd T
         by_cases hin:1≤T∧T≤(l.H.length:Int)
         ·obtain⟨zi,y_⟩:=hin
          obtain⟨u,rfl⟩:=Int.eq_ofNat_of_zero_le (show 0≤T by omega)
          rw[Int.toNat_natCast] at hB
          have Xm: ¬ (l.H.length:Int)<u:=by omega
          have WM:(u:Int)>0:=by omega
          have Tt:(u:Int)<((l.H.length+1:Nat):Int):=by omega
          have WN: ¬ (u:Int)=0:=by omega
          repeat' first |simp(maxSteps:=2000000) (disch:=first |omega | (repeat first |assumption |exact Kept.refl _ |refine Kept.set' (by assumption) ?_ ?_ |refine Kept.set (by assumption) ?_ ?_ |omega)) only[go_sem, *] | (apply xs<;>intro _)<;>try omega |refine fun (_ _:List Nat)=>?_ | (first |refine aC Tryz.func29 rfl ?_ ?_ ?_ ?_ |refine aC Tryz.func22 rfl ?_ ?_ ?_ ?_ |refine aC Tryz.func27 rfl ?_ ?_ ?_ ?_ |refine aC Tryz.func17 rfl ?_ ?_ ?_ ?_ |fail)<;>intros
          refine fL (hB) (by simp only[*]) (by simp only[*]) (by simp only[go_sem, *]) (by simp only[go_sem, *]) ?_
          rintro v h5 n5 (⟨rfl,-,KI,d5,C5,⟨o1,o2⟩,B5⟩ | ⟨rfl,hno,rfl,rfl⟩)
          ·have DY:=Ii GI (show u≤l.H.length by omega) (rfl:K.getD u 0=K.getD u 0)
           generalize K.getD u 0=y at DY KI
           have yy:=o2 94 (by omega) (by omega)
           have GJ:=F1.trans (B5.st.2.2.1.kept B5.st.2.1)
           have qW:=yy.1
           rw[←yy.2] at gT
           clear hB gk nk kf B ih yy o2
           have gk:=B5.st.2.1.at gT
           have nk:=B5.st.2.1.lt gT
           rw[qW] at gk nk
           repeat' first |simp(maxSteps:=2000000) (disch:=first |omega | (repeat first |assumption |exact Kept.refl _ |refine Kept.set' (by assumption) ?_ ?_ |refine Kept.set (by assumption) ?_ ?_ |omega)) only[go_sem, *,mZ,m_,ng,nh] | (apply xs<;>intro _)<;>try omega |refine fun (_ _:List Nat)=>?_ | (first |refine aC Tryz.func29 rfl ?_ ?_ ?_ ?_ |refine aC Tryz.func22 rfl ?_ ?_ ?_ ?_ |refine aC Tryz.func27 rfl ?_ ?_ ?_ ?_ |refine aC Tryz.func17 rfl ?_ ?_ ?_ ?_ |fail)<;>intros
           obtain⟨C6,c6,B6⟩:=B5.kind gT
           rw[qW] at B6
           refine mid _ _ _ ⟨k+3,b+1,K.set u 0,d5,C6,?_⟩
           simp(maxSteps:=2000000) (disch:=first |omega | (repeat first |assumption |exact Kept.refl _ |refine Kept.set' (by assumption) ?_ ?_ |refine Kept.set (by assumption) ?_ ?_ |omega)) only[go_sem, *]
           exact⟨by omega,by omega⟩
          ·have hKb:K.getD u 0=0:=Decidable.byContradiction fun c=>hno ⟨⟨zi,y_⟩,c⟩
           have DY:=Ii GI (show u≤l.H.length by omega) hKb
           have B5:=B
           have GJ:=F1.trans (B5.st.2.2.1.kept B5.st.2.1)
           clear hB gk nk kf B ih
           have gk:=B5.st.2.1.at gT
           have nk:=B5.st.2.1.lt gT
           repeat' first |simp(maxSteps:=2000000) (disch:=first |omega | (repeat first |assumption |exact Kept.refl _ |refine Kept.set' (by assumption) ?_ ?_ |refine Kept.set (by assumption) ?_ ?_ |omega)) only[go_sem, *,mZ,m_,ng,nh] | (apply xs<;>intro _)<;>try omega |refine fun (_ _:List Nat)=>?_ | (first |refine aC Tryz.func29 rfl ?_ ?_ ?_ ?_ |refine aC Tryz.func22 rfl ?_ ?_ ?_ ?_ |refine aC Tryz.func27 rfl ?_ ?_ ?_ ?_ |refine aC Tryz.func17 rfl ?_ ?_ ?_ ?_ |fail)<;>intros
           refine mid _ _ _ ⟨k,b,K,d,C,?_⟩
           simp(maxSteps:=2000000) (disch:=first |omega | (repeat first |assumption |exact Kept.refl _ |refine Kept.set' (by assumption) ?_ ?_ |refine Kept.set (by assumption) ?_ ?_ |omega)) only[go_sem, *]
           exact⟨by omega,by omega⟩
         ·have h3: ¬ 1≤T∨(1≤T∧ ¬T≤(l.H.length:Int)):=by omega
          rcases h3 with zi | ⟨zi,y_⟩
          all_goals
           repeat' first |simp(maxSteps:=2000000) (disch:=first |omega | (repeat first |assumption |exact Kept.refl _ |refine Kept.set' (by assumption) ?_ ?_ |refine Kept.set (by assumption) ?_ ?_ |omega)) only[go_sem, *] | (apply xs<;>intro _)<;>try omega |refine fun (_ _:List Nat)=>?_ | (first |refine aC Tryz.func29 rfl ?_ ?_ ?_ ?_ |refine aC Tryz.func22 rfl ?_ ?_ ?_ ?_ |refine aC Tryz.func27 rfl ?_ ?_ ?_ ?_ |refine aC Tryz.func17 rfl ?_ ?_ ?_ ?_ |fail)<;>intros
           refine fL (hB) (by simp only[*]) (by simp only[*]) (by simp only[go_sem, *]) (by simp only[go_sem, *]) ?_
           rintro v h5 n5 (⟨rfl,c,-⟩ | ⟨rfl,hno,rfl,rfl⟩)
           ·exact absurd c hin
           ·have B5:=B
            have GJ:=F1.trans (B5.st.2.2.1.kept B5.st.2.1)
            clear hB gk nk kf B ih
            have gk:=B5.st.2.1.at gT
            have nk:=B5.st.2.1.lt gT
            repeat' first |simp(maxSteps:=2000000) (disch:=first |omega | (repeat first |assumption |exact Kept.refl _ |refine Kept.set' (by assumption) ?_ ?_ |refine Kept.set (by assumption) ?_ ?_ |omega)) only[go_sem, *,mZ,m_,ng,nh] | (apply xs<;>intro _)<;>try omega |refine fun (_ _:List Nat)=>?_ | (first |refine aC Tryz.func29 rfl ?_ ?_ ?_ ?_ |refine aC Tryz.func22 rfl ?_ ?_ ?_ ?_ |refine aC Tryz.func27 rfl ?_ ?_ ?_ ?_ |refine aC Tryz.func17 rfl ?_ ?_ ?_ ?_ |fail)<;>intros
            refine mid _ _ _ ⟨k,b,K,d,C,?_⟩
            simp(maxSteps:=2000000) (disch:=first |omega | (repeat first |assumption |exact Kept.refl _ |refine Kept.set' (by assumption) ?_ ?_ |refine Kept.set (by assumption) ?_ ?_ |omega)) only[go_sem, *]
            exact⟨by omega,by omega⟩
     ·rintro m h' n' ⟨k,b,K,d,C,q1,q2,q3,q4,q5,q6,q7,q8,q9,Ez,KJ,qb,qk,gT,B⟩
      have GI:=B.st.2.2.2.1
      obtain⟨bb,wm⟩:∃ bb,d (70,0)=bb:=⟨_,rfl⟩
      obtain⟨kb,hkb⟩:∃ kb,d (94,0)=kb:=⟨_,rfl⟩
      have I0:uo h3 n3 lb l p5 p6 b k K bb kb (qX [] [] []) d C h' n':=⟨B,gT,wm,hkb,fun a h1 h2 h3=>by unfold qX at h3;split at h3<;>(try split at h3)<;>simp at h3⟩
      rw[wm] at q4
      rw[hkb] at q6
      clear gT B gk nk kf
      refine cU (fun t m h' n'=>∃ (j:Nat) (d:Rl→Nat) (C:Rl→Option aj),j≤l.H.length∧t=l.H.length-j∧m.n=231∧m.fO=[]∧m.get 1 = .slice (some ⟨q,0,none⟩) A.length c2∧m.get 5=pt bb∧m.get 7=I6 l.H.length∧m.get 8 = .slice (some ⟨kb,0,none⟩) (l.H.length+1) (l.H.length+1)∧m.get 9=I6 i∧m.get 16=mkV (d (91,0)) (fP (fun k=>decide (k=2)) K j)∧m.get 17=mkV (d (92,0)) (fP (fun k=>decide (k=3)) K j)∧m.get 18=mkV (d (93,0)) (fP (fun k=>decide (k≠0)) K j)∧m.get 19=I6 ((j+1:Nat):Int)∧uo h3 n3 lb l p5 p6 b k K bb kb (qX (fP (fun k=>decide (k=2)) K j) (fP (fun k=>decide (k=3)) K j) (fP (fun k=>decide (k≠0)) K j)) d C h' n') l.H.length ?_ ?_
      ·refine⟨0,d,C,Nat.zero_le _,rfl,?_⟩
       rw[show fP (fun k=>decide (k=2)) K 0=[] from rfl,show fP (fun k=>decide (k=3)) K 0=[] from rfl,show fP (fun k=>decide (k≠0)) K 0=[] from rfl,kS,kS,kS]
       simp(maxSteps:=2000000) (disch:=first |omega | (repeat first |assumption |exact Kept.refl _ |refine Kept.set' (by assumption) ?_ ?_ |refine Kept.set (by assumption) ?_ ?_ |omega)) only[go_sem, *]
       rfl
      ·clear I0 wm hkb
       rintro t m h' n' ih2 ⟨j,d,C,hj,rfl,q1,q2,q3,q4,q5,q6,q7,q8,q9,Ez,KJ,I⟩
       by_cases Px:j<l.H.length
       ·have DY:=Ii GI (show j+1≤l.H.length by omega) (rfl:K.getD (j+1) 0=K.getD (j+1) 0)
        have hj1:((j+1:Nat):Int)≤(l.H.length:Int):=by omega
        have hj2:((j+1:Nat):Int)<((l.H.length+1:Nat):Int):=by omega
        have hj3:((j+1:Nat):Int)+1=((j+1+1:Nat):Int):=by omega
        have S:=I.bs.st.2.1
        have gk:=S.at I.gT
        have nk:=S.lt I.gT
        rw[I.PO] at gk nk
        generalize hy:K.getD (j+1) 0=y at DY
        have e1:fP (fun k=>decide (k=2)) K (j+1)=(if y=2 then fP (fun k=>decide (k=2)) K j++[((j+1:Nat):Int)] else fP (fun k=>decide (k=2)) K j):=by rw[qU,hy];simp only[decide_eq_true_eq]
        have e2:fP (fun k=>decide (k=3)) K (j+1)=(if y=3 then fP (fun k=>decide (k=3)) K j++[((j+1:Nat):Int)] else fP (fun k=>decide (k=3)) K j):=by rw[qU,hy];simp only[decide_eq_true_eq]
        have e3:fP (fun k=>decide (k≠0)) K (j+1)=(if ¬y=0 then fP (fun k=>decide (k≠0)) K j++[((j+1:Nat):Int)] else fP (fun k=>decide (k≠0)) K j):=by rw[qU,hy];simp only[decide_eq_true_eq,ne_eq]
        have l1:=kV (p:=(fun k=>decide (k=2))) (K:=K) (m:=j)
        have l2:=kV (p:=(fun k=>decide (k=3))) (K:=K) (m:=j)
        have l3:=kV (p:=(fun k=>decide (k≠0))) (K:=K) (m:=j)
        generalize fP (fun k=>decide (k=2)) K j=T1 at*
        generalize fP (fun k=>decide (k=3)) K j=T2 at*
        generalize fP (fun k=>decide (k≠0)) K j=T3 at*
        clear hy
        repeat' first |simp(maxSteps:=2000000) (disch:=first |omega | (repeat first |assumption |exact Kept.refl _ |refine Kept.set' (by assumption) ?_ ?_ |refine Kept.set (by assumption) ?_ ?_ |omega)) only[go_sem, *] | (apply xs<;>intro _)<;>try omega |refine fun (_ _:List Nat)=>?_ | (first |refine aC Tryz.func29 rfl ?_ ?_ ?_ ?_ |refine aC Tryz.func22 rfl ?_ ?_ ?_ ?_ |refine aC Tryz.func27 rfl ?_ ?_ ?_ ?_ |refine aC Tryz.func17 rfl ?_ ?_ ?_ ?_ |fail)<;>intros
        refine KG (fun m' h' n'=>∃ (d:Rl→Nat) (C:Rl→Option aj),m'.n=231∧m'.fO=[]∧m'.get 1 = .slice (some ⟨q,0,none⟩) A.length c2∧m'.get 5=pt bb∧m'.get 7=I6 l.H.length∧m'.get 8 = .slice (some ⟨kb,0,none⟩) (l.H.length+1) (l.H.length+1)∧m'.get 9=I6 i∧m'.get 16=mkV (d (91,0)) T1∧m'.get 17=mkV (d (92,0)) T2∧m'.get 18=mkV (d (93,0)) (if ¬y=0 then T3++[((j+1:Nat):Int)] else T3)∧m'.get 19=I6 ((j+1:Nat):Int)∧uo h3 n3 lb l p5 p6 b k K bb kb (qX T1 T2 (if ¬y=0 then T3++[((j+1:Nat):Int)] else T3)) d C h' n') ?_ ?_
        rotate_left
        ·intro K2 hk2
         clear ih2
         by_cases yc: ¬ y=0
         ·by_cases c0:T3.length=0
          ·obtain rfl:T3=[]:=List.length_eq_zero_iff.1 c0
           rw[kS] at Ez
           clear c0 e1 e2 e3
           repeat' first |simp(maxSteps:=2000000) (disch:=first |omega | (repeat first |assumption |exact Kept.refl _ |refine Kept.set' (by assumption) ?_ ?_ |refine Kept.set (by assumption) ?_ ?_ |omega)) only[go_sem, *] | (apply xs<;>intro _)<;>try omega |refine fun (_ _:List Nat)=>?_ | (first |refine aC Tryz.func29 rfl ?_ ?_ ?_ ?_ |refine aC Tryz.func22 rfl ?_ ?_ ?_ ?_ |refine aC Tryz.func27 rfl ?_ ?_ ?_ ?_ |refine aC Tryz.func17 rfl ?_ ?_ ?_ ?_ |fail)<;>intros
           generalize sK:(h'.set _ _).set _ _=h4
           obtain⟨d4,C4,g1,g2,g3,I4⟩:=I.g93 ((j+1:Nat):Int) (h':=h4) (Y:=some (.cells (PT.ofList .leaf 0 [I6 ((j+1:Nat):Int)]) false)) (.inl ⟨rfl,sK.symm⟩)
           clear sK I
           refine hk2 _ _ _ ⟨d4,C4,?_⟩
           clear hk2
           rw[if_pos yc,show mkV (d4 (93,0)) ([]++[((j+1:Nat):Int)]) = .slice (some ⟨n'+1,0,none⟩) 1 (aA+1) from by rw[g3];rfl]
           simp(maxSteps:=2000000) (disch:=first |omega | (repeat first |assumption |exact Kept.refl _ |refine Kept.set' (by assumption) ?_ ?_ |refine Kept.set (by assumption) ?_ ?_ |omega)) only[go_sem, *]
           exact I4
          ·have hp:0<T3.length:=by omega
           rw[mU hp] at Ez
           have ni:=I.rows 93 (by omega) (by omega) hp
           change C (93,0)=row (T3.map (.int .i64)) at ni
           have DZ:=S.at ni
           have D1:=S.lt ni
           have A8:List.take T3.length (T3.map (Value.int .i64))=T3.map (.int .i64):=List.take_of_length_le (by simp)
           clear ni c0 e1 e2 e3
           repeat' first |simp(maxSteps:=2000000) (disch:=first |omega | (repeat first |assumption |exact Kept.refl _ |refine Kept.set' (by assumption) ?_ ?_ |refine Kept.set (by assumption) ?_ ?_ |omega)) only[go_sem, *] | (apply xs<;>intro _)<;>try omega |refine fun (_ _:List Nat)=>?_ | (first |refine aC Tryz.func29 rfl ?_ ?_ ?_ ?_ |refine aC Tryz.func22 rfl ?_ ?_ ?_ ?_ |refine aC Tryz.func27 rfl ?_ ?_ ?_ ?_ |refine aC Tryz.func17 rfl ?_ ?_ ?_ ?_ |fail)<;>intros
           generalize sK:((h'.set _ _).set _ _).set _ _=h4
           obtain⟨d4,C4,g1,g2,g3,I4⟩:=I.g93 ((j+1:Nat):Int) (h':=h4) (Y:=some (.cells (PT.ofList .leaf 0 [I6 ((j+1:Nat):Int)]) false)) (.inr ⟨hp,by rw[List.map_append];exact sK.symm⟩)
           clear sK I DZ D1 A8
           refine hk2 _ _ _ ⟨d4,C4,?_⟩
           clear hk2
           rw[if_pos yc,show mkV (d4 (93,0)) (T3++[((j+1:Nat):Int)]) = .slice (some ⟨n'+1,0,none⟩) (T3.length+1) (aA+1) from by rw[g3,qO]]
           simp(maxSteps:=2000000) (disch:=first |omega | (repeat first |assumption |exact Kept.refl _ |refine Kept.set' (by assumption) ?_ ?_ |refine Kept.set (by assumption) ?_ ?_ |omega)) only[go_sem, *]
         ·repeat' first |simp(maxSteps:=2000000) (disch:=first |omega | (repeat first |assumption |exact Kept.refl _ |refine Kept.set' (by assumption) ?_ ?_ |refine Kept.set (by assumption) ?_ ?_ |omega)) only[go_sem, *] | (apply xs<;>intro _)<;>try omega |refine fun (_ _:List Nat)=>?_ | (first |refine aC Tryz.func29 rfl ?_ ?_ ?_ ?_ |refine aC Tryz.func22 rfl ?_ ?_ ?_ ?_ |refine aC Tryz.func27 rfl ?_ ?_ ?_ ?_ |refine aC Tryz.func17 rfl ?_ ?_ ?_ ?_ |fail)<;>intros
          refine hk2 _ _ _ ⟨d,C,?_⟩
          clear hk2
          rw[if_neg yc]
          simp(maxSteps:=2000000) (disch:=first |omega | (repeat first |assumption |exact Kept.refl _ |refine Kept.set' (by assumption) ?_ ?_ |refine Kept.set (by assumption) ?_ ?_ |omega)) only[go_sem, *]
        ·clear I S gk nk q1 q2 q3 q4 q5 q6 q7 q8 q9 Ez KJ
         rintro m h' n' ⟨d,C,q1,q2,q3,q4,q5,q6,q7,q8,q9,Ez,KJ,I⟩
         have S:=I.bs.st.2.1
         have gk:=S.at I.gT
         have nk:=S.lt I.gT
         rw[I.PO] at gk nk
         generalize hU3:(if ¬y=0 then T3++[((j+1:Nat):Int)] else T3)=U3 at*
         repeat' first |simp(maxSteps:=2000000) (disch:=first |omega | (repeat first |assumption |exact Kept.refl _ |refine Kept.set' (by assumption) ?_ ?_ |refine Kept.set (by assumption) ?_ ?_ |omega)) only[go_sem, *] | (apply xs<;>intro _)<;>try omega |refine fun (_ _:List Nat)=>?_ | (first |refine aC Tryz.func29 rfl ?_ ?_ ?_ ?_ |refine aC Tryz.func22 rfl ?_ ?_ ?_ ?_ |refine aC Tryz.func27 rfl ?_ ?_ ?_ ?_ |refine aC Tryz.func17 rfl ?_ ?_ ?_ ?_ |fail)<;>intros
         refine KG (fun m' h' n'=>∃ (d:Rl→Nat) (C:Rl→Option aj),m'.n=231∧m'.fO=[]∧m'.get 1 = .slice (some ⟨q,0,none⟩) A.length c2∧m'.get 5=pt bb∧m'.get 7=I6 l.H.length∧m'.get 8 = .slice (some ⟨kb,0,none⟩) (l.H.length+1) (l.H.length+1)∧m'.get 9=I6 i∧m'.get 16=mkV (d (91,0)) (if y=2 then T1++[((j+1:Nat):Int)] else T1)∧m'.get 17=mkV (d (92,0)) T2∧m'.get 18=mkV (d (93,0)) U3∧m'.get 19=I6 ((j+1:Nat):Int)∧uo h3 n3 lb l p5 p6 b k K bb kb (qX (if y=2 then T1++[((j+1:Nat):Int)] else T1) T2 U3) d C h' n') ?_ ?_
         rotate_left
         ·intro K2 hk2
          clear ih2
          by_cases yc:y=2
          ·by_cases c0:T1.length=0
           ·obtain rfl:T1=[]:=List.length_eq_zero_iff.1 c0
            rw[kS] at q8
            clear c0 e1 e2 e3
            repeat' first |simp(maxSteps:=2000000) (disch:=first |omega | (repeat first |assumption |exact Kept.refl _ |refine Kept.set' (by assumption) ?_ ?_ |refine Kept.set (by assumption) ?_ ?_ |omega)) only[go_sem, *] | (apply xs<;>intro _)<;>try omega |refine fun (_ _:List Nat)=>?_ | (first |refine aC Tryz.func29 rfl ?_ ?_ ?_ ?_ |refine aC Tryz.func22 rfl ?_ ?_ ?_ ?_ |refine aC Tryz.func27 rfl ?_ ?_ ?_ ?_ |refine aC Tryz.func17 rfl ?_ ?_ ?_ ?_ |fail)<;>intros
            generalize sK:(h'.set _ _).set _ _=h4
            obtain⟨d4,C4,g1,g2,g3,I4⟩:=I.g91 ((j+1:Nat):Int) (h':=h4) (Y:=some (.cells (PT.ofList .leaf 0 [I6 ((j+1:Nat):Int)]) false)) (.inl ⟨rfl,sK.symm⟩)
            clear sK I
            refine hk2 _ _ _ ⟨d4,C4,?_⟩
            clear hk2
            rw[if_pos yc,show mkV (d4 (91,0)) ([]++[((j+1:Nat):Int)]) = .slice (some ⟨n'+1,0,none⟩) 1 (aA+1) from by rw[g3];rfl]
            simp(maxSteps:=2000000) (disch:=first |omega | (repeat first |assumption |exact Kept.refl _ |refine Kept.set' (by assumption) ?_ ?_ |refine Kept.set (by assumption) ?_ ?_ |omega)) only[go_sem, *]
            exact I4
           ·have hp:0<T1.length:=by omega
            rw[mU hp] at q8
            have ni:=I.rows 91 (by omega) (by omega) hp
            change C (91,0)=row (T1.map (.int .i64)) at ni
            have DZ:=S.at ni
            have D1:=S.lt ni
            have A8:List.take T1.length (T1.map (Value.int .i64))=T1.map (.int .i64):=List.take_of_length_le (by simp)
            clear ni c0 e1 e2 e3
            repeat' first |simp(maxSteps:=2000000) (disch:=first |omega | (repeat first |assumption |exact Kept.refl _ |refine Kept.set' (by assumption) ?_ ?_ |refine Kept.set (by assumption) ?_ ?_ |omega)) only[go_sem, *] | (apply xs<;>intro _)<;>try omega |refine fun (_ _:List Nat)=>?_ | (first |refine aC Tryz.func29 rfl ?_ ?_ ?_ ?_ |refine aC Tryz.func22 rfl ?_ ?_ ?_ ?_ |refine aC Tryz.func27 rfl ?_ ?_ ?_ ?_ |refine aC Tryz.func17 rfl ?_ ?_ ?_ ?_ |fail)<;>intros
            generalize sK:((h'.set _ _).set _ _).set _ _=h4
            obtain⟨d4,C4,g1,g2,g3,I4⟩:=I.g91 ((j+1:Nat):Int) (h':=h4) (Y:=some (.cells (PT.ofList .leaf 0 [I6 ((j+1:Nat):Int)]) false)) (.inr ⟨hp,by rw[List.map_append];exact sK.symm⟩)
            clear sK I DZ D1 A8
            refine hk2 _ _ _ ⟨d4,C4,?_⟩
            clear hk2
            rw[if_pos yc,show mkV (d4 (91,0)) (T1++[((j+1:Nat):Int)]) = .slice (some ⟨n'+1,0,none⟩) (T1.length+1) (aA+1) from by rw[g3,qO]]
            simp(maxSteps:=2000000) (disch:=first |omega | (repeat first |assumption |exact Kept.refl _ |refine Kept.set' (by assumption) ?_ ?_ |refine Kept.set (by assumption) ?_ ?_ |omega)) only[go_sem, *]
          ·repeat' first |simp(maxSteps:=2000000) (disch:=first |omega | (repeat first |assumption |exact Kept.refl _ |refine Kept.set' (by assumption) ?_ ?_ |refine Kept.set (by assumption) ?_ ?_ |omega)) only[go_sem, *] | (apply xs<;>intro _)<;>try omega |refine fun (_ _:List Nat)=>?_ | (first |refine aC Tryz.func29 rfl ?_ ?_ ?_ ?_ |refine aC Tryz.func22 rfl ?_ ?_ ?_ ?_ |refine aC Tryz.func27 rfl ?_ ?_ ?_ ?_ |refine aC Tryz.func17 rfl ?_ ?_ ?_ ?_ |fail)<;>intros
           refine hk2 _ _ _ ⟨d,C,?_⟩
           clear hk2
           rw[if_neg yc]
           simp(maxSteps:=2000000) (disch:=first |omega | (repeat first |assumption |exact Kept.refl _ |refine Kept.set' (by assumption) ?_ ?_ |refine Kept.set (by assumption) ?_ ?_ |omega)) only[go_sem, *]
         ·clear I S gk nk q1 q2 q3 q4 q5 q6 q7 q8 q9 Ez KJ
          rintro m h' n' ⟨d,C,q1,q2,q3,q4,q5,q6,q7,q8,q9,Ez,KJ,I⟩
          have S:=I.bs.st.2.1
          have gk:=S.at I.gT
          have nk:=S.lt I.gT
          rw[I.PO] at gk nk
          generalize hU1:(if y=2 then T1++[((j+1:Nat):Int)] else T1)=U1 at*
          repeat' first |simp(maxSteps:=2000000) (disch:=first |omega | (repeat first |assumption |exact Kept.refl _ |refine Kept.set' (by assumption) ?_ ?_ |refine Kept.set (by assumption) ?_ ?_ |omega)) only[go_sem, *] | (apply xs<;>intro _)<;>try omega |refine fun (_ _:List Nat)=>?_ | (first |refine aC Tryz.func29 rfl ?_ ?_ ?_ ?_ |refine aC Tryz.func22 rfl ?_ ?_ ?_ ?_ |refine aC Tryz.func27 rfl ?_ ?_ ?_ ?_ |refine aC Tryz.func17 rfl ?_ ?_ ?_ ?_ |fail)<;>intros
          refine KG (fun m' h' n'=>∃ (d:Rl→Nat) (C:Rl→Option aj),m'.n=231∧m'.fO=[]∧m'.get 1 = .slice (some ⟨q,0,none⟩) A.length c2∧m'.get 5=pt bb∧m'.get 7=I6 l.H.length∧m'.get 8 = .slice (some ⟨kb,0,none⟩) (l.H.length+1) (l.H.length+1)∧m'.get 9=I6 i∧m'.get 16=mkV (d (91,0)) U1∧m'.get 17=mkV (d (92,0)) (if y=3 then T2++[((j+1:Nat):Int)] else T2)∧m'.get 18=mkV (d (93,0)) U3∧m'.get 19=I6 ((j+1:Nat):Int)∧uo h3 n3 lb l p5 p6 b k K bb kb (qX U1 (if y=3 then T2++[((j+1:Nat):Int)] else T2) U3) d C h' n') ?_ ?_
          rotate_left
          ·intro K2 hk2
           clear ih2
           by_cases yc:y=3
           ·by_cases c0:T2.length=0
            ·obtain rfl:T2=[]:=List.length_eq_zero_iff.1 c0
             rw[kS] at q9
             clear c0 e1 e2 e3
             repeat' first |simp(maxSteps:=2000000) (disch:=first |omega | (repeat first |assumption |exact Kept.refl _ |refine Kept.set' (by assumption) ?_ ?_ |refine Kept.set (by assumption) ?_ ?_ |omega)) only[go_sem, *] | (apply xs<;>intro _)<;>try omega |refine fun (_ _:List Nat)=>?_ | (first |refine aC Tryz.func29 rfl ?_ ?_ ?_ ?_ |refine aC Tryz.func22 rfl ?_ ?_ ?_ ?_ |refine aC Tryz.func27 rfl ?_ ?_ ?_ ?_ |refine aC Tryz.func17 rfl ?_ ?_ ?_ ?_ |fail)<;>intros
             generalize sK:(h'.set _ _).set _ _=h4
             obtain⟨d4,C4,g1,g2,g3,I4⟩:=I.g92 ((j+1:Nat):Int) (h':=h4) (Y:=some (.cells (PT.ofList .leaf 0 [I6 ((j+1:Nat):Int)]) false)) (.inl ⟨rfl,sK.symm⟩)
             clear sK I
             refine hk2 _ _ _ ⟨d4,C4,?_⟩
             clear hk2
             rw[if_pos yc,show mkV (d4 (92,0)) ([]++[((j+1:Nat):Int)]) = .slice (some ⟨n'+1,0,none⟩) 1 (aA+1) from by rw[g3];rfl]
             simp(maxSteps:=2000000) (disch:=first |omega | (repeat first |assumption |exact Kept.refl _ |refine Kept.set' (by assumption) ?_ ?_ |refine Kept.set (by assumption) ?_ ?_ |omega)) only[go_sem, *]
             exact I4
            ·have hp:0<T2.length:=by omega
             rw[mU hp] at q9
             have ni:=I.rows 92 (by omega) (by omega) hp
             change C (92,0)=row (T2.map (.int .i64)) at ni
             have DZ:=S.at ni
             have D1:=S.lt ni
             have A8:List.take T2.length (T2.map (Value.int .i64))=T2.map (.int .i64):=List.take_of_length_le (by simp)
             clear ni c0 e1 e2 e3
             repeat' first |simp(maxSteps:=2000000) (disch:=first |omega | (repeat first |assumption |exact Kept.refl _ |refine Kept.set' (by assumption) ?_ ?_ |refine Kept.set (by assumption) ?_ ?_ |omega)) only[go_sem, *] | (apply xs<;>intro _)<;>try omega |refine fun (_ _:List Nat)=>?_ | (first |refine aC Tryz.func29 rfl ?_ ?_ ?_ ?_ |refine aC Tryz.func22 rfl ?_ ?_ ?_ ?_ |refine aC Tryz.func27 rfl ?_ ?_ ?_ ?_ |refine aC Tryz.func17 rfl ?_ ?_ ?_ ?_ |fail)<;>intros
             generalize sK:((h'.set _ _).set _ _).set _ _=h4
             obtain⟨d4,C4,g1,g2,g3,I4⟩:=I.g92 ((j+1:Nat):Int) (h':=h4) (Y:=some (.cells (PT.ofList .leaf 0 [I6 ((j+1:Nat):Int)]) false)) (.inr ⟨hp,by rw[List.map_append];exact sK.symm⟩)
             clear sK I DZ D1 A8
             refine hk2 _ _ _ ⟨d4,C4,?_⟩
             clear hk2
             rw[if_pos yc,show mkV (d4 (92,0)) (T2++[((j+1:Nat):Int)]) = .slice (some ⟨n'+1,0,none⟩) (T2.length+1) (aA+1) from by rw[g3,qO]]
             simp(maxSteps:=2000000) (disch:=first |omega | (repeat first |assumption |exact Kept.refl _ |refine Kept.set' (by assumption) ?_ ?_ |refine Kept.set (by assumption) ?_ ?_ |omega)) only[go_sem, *]
           ·repeat' first |simp(maxSteps:=2000000) (disch:=first |omega | (repeat first |assumption |exact Kept.refl _ |refine Kept.set' (by assumption) ?_ ?_ |refine Kept.set (by assumption) ?_ ?_ |omega)) only[go_sem, *] | (apply xs<;>intro _)<;>try omega |refine fun (_ _:List Nat)=>?_ | (first |refine aC Tryz.func29 rfl ?_ ?_ ?_ ?_ |refine aC Tryz.func22 rfl ?_ ?_ ?_ ?_ |refine aC Tryz.func27 rfl ?_ ?_ ?_ ?_ |refine aC Tryz.func17 rfl ?_ ?_ ?_ ?_ |fail)<;>intros
            refine hk2 _ _ _ ⟨d,C,?_⟩
            clear hk2
            rw[if_neg yc]
            simp(maxSteps:=2000000) (disch:=first |omega | (repeat first |assumption |exact Kept.refl _ |refine Kept.set' (by assumption) ?_ ?_ |refine Kept.set (by assumption) ?_ ?_ |omega)) only[go_sem, *]
          ·clear I S gk nk q1 q2 q3 q4 q5 q6 q7 q8 q9 Ez KJ
           rintro m h' n' ⟨d,C,q1,q2,q3,q4,q5,q6,q7,q8,q9,Ez,KJ,I⟩
           have S:=I.bs.st.2.1
           have gk:=S.at I.gT
           have nk:=S.lt I.gT
           rw[I.PO] at gk nk
           rw[←e2] at q9
           rw[←e2] at I
           rw[←e1] at q8 I
           rw[←e3] at Ez I
           clear e1 e2 e3
           repeat' first |simp(maxSteps:=2000000) (disch:=first |omega | (repeat first |assumption |exact Kept.refl _ |refine Kept.set' (by assumption) ?_ ?_ |refine Kept.set (by assumption) ?_ ?_ |omega)) only[go_sem, *] | (apply xs<;>intro _)<;>try omega |refine fun (_ _:List Nat)=>?_ | (first |refine aC Tryz.func29 rfl ?_ ?_ ?_ ?_ |refine aC Tryz.func22 rfl ?_ ?_ ?_ ?_ |refine aC Tryz.func27 rfl ?_ ?_ ?_ ?_ |refine aC Tryz.func17 rfl ?_ ?_ ?_ ?_ |fail)<;>intros
           refine ih2 (l.H.length-(j+1)) _ _ _ (by omega) ⟨j+1,d,C,by omega,rfl,?_⟩
           clear ih2 ih
           simp(maxSteps:=2000000) (disch:=first |omega | (repeat first |assumption |exact Kept.refl _ |refine Kept.set' (by assumption) ?_ ?_ |refine Kept.set (by assumption) ?_ ?_ |omega)) only[go_sem, *]
       ·have hjn:j=l.H.length:=by omega
        subst hjn
        have e19: ¬ ((l.H.length+1:Nat):Int)≤(l.H.length:Int):=by omega
        clear ih2
        have l1:=kV (p:=(fun k=>decide (k=2))) (K:=K) (m:=l.H.length)
        have l2:=kV (p:=(fun k=>decide (k=3))) (K:=K) (m:=l.H.length)
        have l3:=kV (p:=(fun k=>decide (k≠0))) (K:=K) (m:=l.H.length)
        have r1:=fun q=>I.bs.st.2.1.at (I.rows 91 (by omega) (by omega) q)
        have r2:=fun q=>I.bs.st.2.1.at (I.rows 92 (by omega) (by omega) q)
        have r3:=fun q=>I.bs.st.2.1.at (I.rows 93 (by omega) (by omega) q)
        change 0<(fP (fun k=>decide (k=2)) K l.H.length).length→h'.get _=row ((fP (fun k=>decide (k=2)) K l.H.length).map (.int .i64)) at r1
        change 0<(fP (fun k=>decide (k=3)) K l.H.length).length→h'.get _=row ((fP (fun k=>decide (k=3)) K l.H.length).map (.int .i64)) at r2
        change 0<(fP (fun k=>decide (k≠0)) K l.H.length).length→h'.get _=row ((fP (fun k=>decide (k≠0)) K l.H.length).map (.int .i64)) at r3
        have hB:=I.bs.uk
        rw[I.Xe] at hB
        repeat' first |simp(maxSteps:=2000000) (disch:=first |omega | (repeat first |assumption |exact Kept.refl _ |refine Kept.set' (by assumption) ?_ ?_ |refine Kept.set (by assumption) ?_ ?_ |omega)) only[go_sem, *] | (apply xs<;>intro _)<;>try omega |refine fun (_ _:List Nat)=>?_ | (first |refine aC Tryz.func29 rfl ?_ ?_ ?_ ?_ |refine aC Tryz.func22 rfl ?_ ?_ ?_ ?_ |refine aC Tryz.func27 rfl ?_ ?_ ?_ ?_ |refine aC Tryz.func17 rfl ?_ ?_ ?_ ?_ |fail)<;>intros
        refine fL (hB) (by simp only[*]) (by simp only[*]) (by simp only[go_sem, *]) (by simp only[go_sem, *]) ?_
        rintro v5 h5 n5 ⟨G5,k5,w5,Tt⟩
        have B5:=I.bs.keep k5 w5 Tt
        have hE:=kU (O:=OB) _ _ _ _ h5 n5 G5.gP (qV fun q=>k5 _ _ (r1 q)) (by omega) (by omega)
        repeat' first |simp(maxSteps:=2000000) (disch:=first |omega | (repeat first |assumption |exact Kept.refl _ |refine Kept.set' (by assumption) ?_ ?_ |refine Kept.set (by assumption) ?_ ?_ |omega)) only[go_sem, *] | (apply xs<;>intro _)<;>try omega |refine fun (_ _:List Nat)=>?_ | (first |refine aC Tryz.func29 rfl ?_ ?_ ?_ ?_ |refine aC Tryz.func22 rfl ?_ ?_ ?_ ?_ |refine aC Tryz.func27 rfl ?_ ?_ ?_ ?_ |refine aC Tryz.func17 rfl ?_ ?_ ?_ ?_ |fail)<;>intros
        refine fL (hE) (by simp only[*]) (by simp only[*]) (by simp only[go_sem, *]) (by simp only[go_sem, *]) ?_
        rintro v6 h6 n6 ⟨rfl,rfl,rfl⟩
        have Xn:=B5.qR
        rw[I.Xe] at Xn
        clear hB hE
        repeat' first |simp(maxSteps:=2000000) (disch:=first |omega | (repeat first |assumption |exact Kept.refl _ |refine Kept.set' (by assumption) ?_ ?_ |refine Kept.set (by assumption) ?_ ?_ |omega)) only[go_sem, *] | (apply xs<;>intro _)<;>try omega |refine fun (_ _:List Nat)=>?_ | (first |refine aC Tryz.func29 rfl ?_ ?_ ?_ ?_ |refine aC Tryz.func22 rfl ?_ ?_ ?_ ?_ |refine aC Tryz.func27 rfl ?_ ?_ ?_ ?_ |refine aC Tryz.func17 rfl ?_ ?_ ?_ ?_ |fail)<;>intros
        refine fL (Xn) (by simp only[*]) (by simp only[*]) (by simp only[go_sem, *]) (by simp only[go_sem, *]) ?_
        rintro v8 h8 n8 ⟨G8,k8,w8,hn8⟩
        have B8:=B5.keep k8 w8 hn8
        have k58:=k5.trans k8
        have hE2:=kU (O:=OB) _ _ _ _ h8 n8 G8.gP (qV fun q=>k58 _ _ (r2 q)) (by omega) (by omega)
        repeat' first |simp(maxSteps:=2000000) (disch:=first |omega | (repeat first |assumption |exact Kept.refl _ |refine Kept.set' (by assumption) ?_ ?_ |refine Kept.set (by assumption) ?_ ?_ |omega)) only[go_sem, *] | (apply xs<;>intro _)<;>try omega |refine fun (_ _:List Nat)=>?_ | (first |refine aC Tryz.func29 rfl ?_ ?_ ?_ ?_ |refine aC Tryz.func22 rfl ?_ ?_ ?_ ?_ |refine aC Tryz.func27 rfl ?_ ?_ ?_ ?_ |refine aC Tryz.func17 rfl ?_ ?_ ?_ ?_ |fail)<;>intros
        refine fL (hE2) (by simp only[*]) (by simp only[*]) (by simp only[go_sem, *]) (by simp only[go_sem, *]) ?_
        rintro v9 h9 n9 ⟨rfl,rfl,rfl⟩
        obtain⟨v0,v1,v3,v4,v5',v6,v7,v8',w0,w1,w2,w3,w5',pb,rr,xk,X,o1,o2,o3,o4,o5,o6,oX,oe⟩:=B8.Xi
        have wm:=I.Xe
        have hkb:=I.PO
        have gT:=I.gT
        rw[wm] at o1 o2
        have g3:=qV fun q=>k58 _ _ (r3 q)
        clear Xn hE2 G5 G8 r1 r2 r3
        repeat' first |simp(maxSteps:=2000000) (disch:=first |omega | (repeat first |assumption |exact Kept.refl _ |refine Kept.set' (by assumption) ?_ ?_ |refine Kept.set (by assumption) ?_ ?_ |omega)) only[go_sem, *,rA] | (apply xs<;>intro _)<;>try omega |refine fun (_ _:List Nat)=>?_ | (first |refine aC Tryz.func29 rfl ?_ ?_ ?_ ?_ |refine aC Tryz.func22 rfl ?_ ?_ ?_ ?_ |refine aC Tryz.func27 rfl ?_ ?_ ?_ ?_ |refine aC Tryz.func17 rfl ?_ ?_ ?_ ?_ |fail)<;>intros
        rw[pz o5 o6 oX]
        have hX:=cK (X:=X)
        by_cases A7:X.length=0
        ·rw[if_pos A7]
         have wZ:bB X=[]:=List.length_eq_zero_iff.1 (by omega)
         have PW:cT Tryz.prog OB 32 [.slice none 0 0,mkV (d (93,0)) (fP (fun k=>decide (k≠0)) K l.H.length)] h9 n9 fun v h' n'=>v = .bool true∧h9=h'∧n9=n':=(kU (O:=OB) (bB X) _ _ _ h9 n9 (.inl ⟨rfl,wZ⟩) g3 (by omega) (by omega)).mono (by rintro v h' n' ⟨rfl,e1,e2⟩;exact⟨by rw[decide_eq_true oe],e1.symm,e2.symm⟩)
         clear g3
         repeat' first |simp(maxSteps:=2000000) (disch:=first |omega | (repeat first |assumption |exact Kept.refl _ |refine Kept.set' (by assumption) ?_ ?_ |refine Kept.set (by assumption) ?_ ?_ |omega)) only[go_sem, *] | (apply xs<;>intro _)<;>try omega |refine fun (_ _:List Nat)=>?_ | (first |refine aC Tryz.func29 rfl ?_ ?_ ?_ ?_ |refine aC Tryz.func22 rfl ?_ ?_ ?_ ?_ |refine aC Tryz.func27 rfl ?_ ?_ ?_ ?_ |refine aC Tryz.func17 rfl ?_ ?_ ?_ ?_ |fail)<;>intros
         refine fL (PW) (by simp only[*]) (by simp only[*]) (by simp only[go_sem, *]) (by simp only[go_sem, *]) ?_
         rintro v9 Pg n10 ⟨rfl,rfl,rfl⟩
         clear PW
         repeat' first |simp(maxSteps:=2000000) (disch:=first |omega | (repeat first |assumption |exact Kept.refl _ |refine Kept.set' (by assumption) ?_ ?_ |refine Kept.set (by assumption) ?_ ?_ |omega)) only[go_sem, *] | (apply xs<;>intro _)<;>try omega |refine fun (_ _:List Nat)=>?_ | (first |refine aC Tryz.func29 rfl ?_ ?_ ?_ ?_ |refine aC Tryz.func22 rfl ?_ ?_ ?_ ?_ |refine aC Tryz.func27 rfl ?_ ?_ ?_ ?_ |refine aC Tryz.func17 rfl ?_ ?_ ?_ ?_ |fail)<;>intros
         refine ih (A.length-(i+1)) _ _ _ (by omega) ⟨i+1,k,b,K,d,C,by omega,rfl,?_⟩
         clear ih
         simp(maxSteps:=2000000) (disch:=first |omega | (repeat first |assumption |exact Kept.refl _ |refine Kept.set' (by assumption) ?_ ?_ |refine Kept.set (by assumption) ?_ ?_ |omega)) only[go_sem, *]
         exact⟨by rw[Int.natCast_add];rfl,by omega⟩
        ·rw[if_neg A7]
         have kA:Kept h9 (h9.set n9 (row ((bB X).map (.int .i64)))):=w8.kept (Nat.le_refl _)
         have hrow:(h9.set n9 (row ((bB X).map (.int .i64)))).get n9=row ((bB X).map (.int .i64)):=bS
         have B9:=B8.keep kA (w8.set (Nat.le_succ _) (Nat.lt_succ_self _)) (Nat.le_succ _)
         have hl9:(bB X).length<1000000:=by rw[oe];omega
         have g1:aS .i64 (h9.set n9 (row ((bB X).map (.int .i64)))) (.slice (some ⟨n9,0,none⟩) X.length (aA+1)) (bB X):=aY.gP (lo:=0) (.inr ⟨n9,by rw[hX],Nat.zero_le _,hrow⟩)
         have g4:=g3.keep kA
         generalize h9.set n9 _=hA at*
         have PW:cT Tryz.prog OB 32 [.slice (some ⟨n9,0,none⟩) X.length (aA+1),mkV (d (93,0)) (fP (fun k=>decide (k≠0)) K l.H.length)] hA (n9+1) fun v h' n'=>v = .bool true∧hA=h'∧n9+1=n':=(kU (O:=OB) (bB X) _ _ _ hA (n9+1) g1 g4 hl9 (by omega)).mono (by rintro v h' n' ⟨rfl,e1,e2⟩;exact⟨by rw[decide_eq_true oe],e1.symm,e2.symm⟩)
         clear g1 g3 g4 hrow
         repeat' first |simp(maxSteps:=2000000) (disch:=first |omega | (repeat first |assumption |exact Kept.refl _ |refine Kept.set' (by assumption) ?_ ?_ |refine Kept.set (by assumption) ?_ ?_ |omega)) only[go_sem, *] | (apply xs<;>intro _)<;>try omega |refine fun (_ _:List Nat)=>?_ | (first |refine aC Tryz.func29 rfl ?_ ?_ ?_ ?_ |refine aC Tryz.func22 rfl ?_ ?_ ?_ ?_ |refine aC Tryz.func27 rfl ?_ ?_ ?_ ?_ |refine aC Tryz.func17 rfl ?_ ?_ ?_ ?_ |fail)<;>intros
         refine fL (PW) (by simp only[*]) (by simp only[*]) (by simp only[go_sem, *]) (by simp only[go_sem, *]) ?_
         rintro v9 Pg n10 ⟨rfl,rfl,rfl⟩
         clear PW
         repeat' first |simp(maxSteps:=2000000) (disch:=first |omega | (repeat first |assumption |exact Kept.refl _ |refine Kept.set' (by assumption) ?_ ?_ |refine Kept.set (by assumption) ?_ ?_ |omega)) only[go_sem, *] | (apply xs<;>intro _)<;>try omega |refine fun (_ _:List Nat)=>?_ | (first |refine aC Tryz.func29 rfl ?_ ?_ ?_ ?_ |refine aC Tryz.func22 rfl ?_ ?_ ?_ ?_ |refine aC Tryz.func27 rfl ?_ ?_ ?_ ?_ |refine aC Tryz.func17 rfl ?_ ?_ ?_ ?_ |fail)<;>intros
         refine ih (A.length-(i+1)) _ _ _ (by omega) ⟨i+1,k,b,K,d,C,by omega,rfl,?_⟩
         clear ih
         simp(maxSteps:=2000000) (disch:=first |omega | (repeat first |assumption |exact Kept.refl _ |refine Kept.set' (by assumption) ?_ ?_ |refine Kept.set (by assumption) ?_ ?_ |omega)) only[go_sem, *]
         exact⟨by rw[Int.natCast_add];rfl,by omega⟩
    ·have e7: ¬ (i:Int)<A.length:=by omega
     repeat' first |simp(maxSteps:=2000000) (disch:=first |omega | (repeat first |assumption |exact Kept.refl _ |refine Kept.set' (by assumption) ?_ ?_ |refine Kept.set (by assumption) ?_ ?_ |omega)) only[go_sem, *,rZ] | (apply xs<;>intro _)<;>try omega |refine fun (_ _:List Nat)=>?_ | (first |refine aC Tryz.func29 rfl ?_ ?_ ?_ ?_ |refine aC Tryz.func22 rfl ?_ ?_ ?_ ?_ |refine aC Tryz.func27 rfl ?_ ?_ ?_ ?_ |refine aC Tryz.func17 rfl ?_ ?_ ?_ ?_ |fail)<;>intros
end Go.Proofs.YtfhmopghjoeamaaGreat
