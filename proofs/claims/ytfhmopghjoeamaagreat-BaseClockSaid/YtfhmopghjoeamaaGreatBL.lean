/-
  A part of the proof: contracts of inner functions.
-/
import Derived.Test.YtfhmopghjoeamaaGreatBJ
import Derived.Test.YtfhmopghjoeamaaGreatAmU5
set_option linter.unusedVariables false
set_option linter.unusedSimpArgs false
namespace Go.Proofs.YtfhmopghjoeamaaGreat
open Go.Am
structure Ck (h1:PT ak) (n1 bb lb:Nat) (v2 v3 v4 ev m1 m2:Value) (W T B:List Int) (k:Nat) (L:List Value) (d:Rl→Nat) (C:Rl→Option ak) (h:PT ak) (n:Nat):Prop where
 st:St h n d C
 fz:Fz h1 n1 d C
 mem:rj d C W L k
 bb:d (70,0)=bb
 base:C (70,0)=row [pt lb,pt (d rM),v2,v3,v4,mkV (d (71,0)) T,ev,m1,m2]
 mks:0<T.length→C (71,0)=row (T.map (.int .i64))
 bf:0<B.length→C (100,0)=row (B.map (.int .i64))
section
variable {h1 h:PT ak} {n1 n bb lb k:Nat} {v2 v3 v4 ev m1 m2:Value} {W T B:List Int} {L:List Value} {d:Rl→Nat} {C:Rl→Option ak}
theorem Ck.tick (K:Ck h1 n1 bb lb v2 v3 v4 ev m1 m2 W T B k L d C h n) (hn:n1≤n) (hl:T.length≤1000) (hk:k≤100000) (h0:T.length=0→k=0):
  gN Tryz.prog OB 8 [pt bb] h n fun r h' n'=>r=I6 T.length∧n≤n'∧∃ g,Ck h1 n1 bb lb v2 v3 v4 ev m1 m2 W (T++[(k:Int)]) B k L (upd d (71,0) g) (upd (upd C (71,0) (row ((T++[(k:Int)]).map (.int .i64)))) (70,0) (row [pt lb,pt (d rM),v2,v3,v4,mkV g (T++[(k:Int)]),ev,m1,m2])) h' n':=by
 obtain⟨S,F,M,hb,b0,hm,hf⟩:=K
 subst hb
 refine(KD S M b0 hm hl hk).mono ?_
 rintro r h' n' ⟨g,g1,g2,rfl,S'⟩
 have e:(if T.length=0 then 0 else (k:Int))=k:=by
  split
  ·rename_i c;rw[h0 c];rfl
  ·rfl
 rw[e] at S'
 refine⟨rfl,by omega,g,S',(F.new (a:=71) (by decide) (by omega) _).set (a:=70) (by decide) ((aq (by decide)).trans b0) _,M.of fun a ha=>⟨aq (by omega),(aq (by omega)).trans (aq (by omega))⟩,aq (by decide),?_,fun _=>?_,fun q=>?_⟩
 ·rw[aA,aq (by decide),aA]
 ·rw[aq (by decide),aA]
 ·rw[aq (by decide),aq (by decide)];exact hf q
theorem Ck.load (K:Ck h1 n1 bb lb v2 v3 v4 ev m1 m2 W T B k L d C h n) (hn:n1≤n) (hk:k≤100000) {a:Nat} (ha:a<W.length):
  gN Tryz.prog OB 10 [pt (d rM),I6 0,I6 a] h n fun r h' n'=>(∃ x,r=pZ [U6 x,I6 0])∧n≤n'∧∃ L' d' C',d' rM=d rM∧d' (100,0)=d (100,0)∧d' (71,0)=d (71,0)∧Ck h1 n1 bb lb v2 v3 v4 ev m1 m2 W T B (k+1) L' d' C' h' n':=by
 obtain⟨S,F,M,hb,b0,hm,hf⟩:=K
 refine(Kl oM S M hk ⟨by omega,by omega⟩ ha).mono ?_
 rintro r h' n' ⟨g,g1,g2,rfl,S'⟩
 have hlen:=M.len
 refine⟨⟨_,rfl⟩,by omega,L++Dc 0 a 1 W[a] W[a] false,upd d rL g,mW C (d rW) g W (L++Dc 0 a 1 W[a] W[a] false) (k+1),aq (by decide),aq (by decide),aq (by decide),S',F.mem S M (by omega),rj.next (L:=L) rfl (by rw[List.length_append,hlen];simp[Dc];omega),(aq (by decide)).trans hb,?_,fun q=>?_,fun q=>?_⟩
 ·rw[aE (by omega),aq (by decide),aq (by decide)];exact b0
 ·rw[aE (by omega)];exact hm q
 ·rw[aE (by omega)];exact hf q
theorem Ck.grow (K:Ck h1 n1 bb lb v2 v3 v4 ev m1 m2 W T B k L d C h n) (hn:n1≤n) (x:Int) {X h':PT ak} {Y:Option ak} (e:(B.length=0∧h'=(h.set n Y).set (n+1) (row ((B++[x]).map (.int .i64))))∨(0<B.length∧h'=((h.set n Y).set (d (100,0)) none).set (n+1) (row ((B++[x]).map (.int .i64))))):
  Ck h1 n1 bb lb v2 v3 v4 ev m1 m2 W T (B++[x]) k L (upd d (100,0) (n+1)) (upd C (100,0) (row ((B++[x]).map (.int .i64)))) h' (n+2):=by
 obtain⟨S,F,M,hb,b0,hm,hf⟩:=K
 refine⟨?_,F.new (by decide) (by omega) _,M.of fun a ha=>⟨aq (by omega),aq (by omega)⟩,(aq (by decide)).trans hb,?_,fun q=>?_,fun _=>aA⟩
 ·rcases e with ⟨e,rfl⟩ | ⟨e,rfl⟩
  ·exact(S.junk (Nat.le_refl _) (Nat.lt_succ_self _)).new (100,0) _ (Nat.le_refl _) (Nat.lt_succ_self _)
  ·exact(((S.junk (Nat.le_refl _) (Nat.lt_succ_self _)).kill (100,0) (hf e) rfl).new (100,0) _ (Nat.le_refl _) (Nat.lt_succ_self _)).eq (by rw[qU]) rfl
 ·rw[aq (by decide),aq (by decide),aq (by decide)];exact b0
 ·rw[aq (by decide)];exact hm q
theorem Ck.before (K:Ck h1 n1 bb lb v2 v3 v4 ev m1 m2 W T B k L d C h n) (hl:T.length≤1000) (s:Nat):
  gN Tryz.prog OB 11 [pt bb,I6 s] h n fun r h' n'=>h'=h∧n'=n∧r=Dn T k s:=by
 obtain⟨S,F,M,hb,b0,hm,hf⟩:=K
 subst hb
 exact Dp S M b0 hm hl
end
set_option maxRecDepth 100000 in
set_option maxHeartbeats 16000000 in
theorem Gf {s:Value} {l:List Int} (h:PT ak) (N:Nat) (hW:cW h N) (hs:aZ .u8 h s l) (hu:∀ x∈l,0≤x∧x<256):
  gN Tryz.prog OB 3 [s] h N fun v h' n'=>v = .bool true:=by
 obtain⟨a,c,rfl,hA⟩:=hs.len
 have hls:((List.length l:Nat):Int)=l.length:=rfl
 refine aD (N:=118) Tryz.func3 rfl rfl fun z hP hO hro hN hQ=>?_
 by_cases hl:100<(l.length:Int)
 ·repeat' first |simp(maxSteps:=2000000) (disch:=first |omega | (repeat first |assumption |exact Kept.refl _ |refine Kept.set' (by assumption) ?_ ?_ |refine Kept.set (by assumption) ?_ ?_ |omega)) only[go_sem, *] | (apply xs<;>intro _)<;>try omega |refine fun (_ _:List Nat)=>?_ | (first |refine bX Tryz.func7 rfl ?_ ?_ ?_ ?_ |refine bX Tryz.func9 rfl ?_ ?_ ?_ ?_ |fail)<;>intros
 repeat' first |simp(maxSteps:=2000000) (disch:=first |omega | (repeat first |assumption |exact Kept.refl _ |refine Kept.set' (by assumption) ?_ ?_ |refine Kept.set (by assumption) ?_ ?_ |omega)) only[go_sem, *] | (apply xs<;>intro _)<;>try omega |refine fun (_ _:List Nat)=>?_ | (first |refine bX Tryz.func7 rfl ?_ ?_ ?_ ?_ |refine bX Tryz.func9 rfl ?_ ?_ ?_ ?_ |fail)<;>intros
 generalize hh0:(h.set _ _).set _ _=h0
 have Y8:cW h0 (N+1):=by rw[←hh0];exact(hW.set (by omega) (by omega)).set (Nat.le_refl _) (by omega)
 have k0:Kept h h0:=by rw[←hh0];exact Kept.set' hW (Nat.le_refl _) (hW.kept (Nat.le_refl _))
 clear hh0
 refine xR (Rh 1 2 2 0 2 2 2 1 0 0 0 0 1 1 0 (.slice none 0 0) [] h0 (N+1) Y8 (.inl ⟨rfl,rfl⟩) (by decide)) (by simp only[*]) (by simp only[*]) (by simp only[go_sem, *]) (by simp only[go_sem, *]) ?_
 rintro v h2 n2 (⟨e,-⟩ | ⟨h1,n1,lb,lv,gb,cv,sz,d,C,rfl,Rp,hn1,hL,uI,S,F,M,IB,-,-⟩)
 ·exact absurd e (by decide)
 have wv:(mV lv).length=sz:=by unfold mV;rw[mN];have:=uI.p9;omega
 have Q8:=uI.Np
 obtain⟨v2,v3,v4,ev,m1,m2,K0⟩:∃ v2 v3 v4 ev m1 m2,Ck h1 n1 (d (70,0)) lb v2 v3 v4 ev m1 m2 (mV lv) [] [] 0 [] d C h2 n2:=⟨_,_,_,_,_,_,S,F,M,rfl,IB.base,fun q=>absurd q (by simp),fun q=>absurd q (by simp)⟩
 have k1:=k0.trans Rp
 have F1:Kept h h1:=k0.trans Rp
 have n12:n1≤n2:=by
  have:=F.lo _ _ (by decide) M.mem
  have:=S.lt M.mem
  omega
 generalize d (70,0)=bb at*
 clear S F M IB hL uI k0 Rp
 generalize mV lv=W at*
 repeat' first |simp(maxSteps:=2000000) (disch:=first |omega | (repeat first |assumption |exact Kept.refl _ |refine Kept.set' (by assumption) ?_ ?_ |refine Kept.set (by assumption) ?_ ?_ |omega)) only[go_sem, *] | (apply xs<;>intro _)<;>try omega |refine fun (_ _:List Nat)=>?_ | (first |refine bX Tryz.func7 rfl ?_ ?_ ?_ ?_ |refine bX Tryz.func9 rfl ?_ ?_ ?_ ?_ |fail)<;>intros
 refine cU (fun t m h' n'=>∃ (i k:Nat) (T:List Int) (L:List Value) (d:Rl→Nat) (C:Rl→Option ak),i≤l.length∧t=l.length-i∧m.n=118∧m.gn=[]∧m.get 0 = .slice a l.length c∧m.get 3=pt bb∧m.get 5=I6 k∧m.get 6=mkV (d (100,0)) T∧m.get 7=I6 i∧T.length=i∧k≤5*i∧n1≤n'∧(0<T.length→T[0]? = some 0)∧
  Ck h1 n1 bb lb v2 v3 v4 ev m1 m2 W T T k L d C h' n') l.length ?_ ?_
 ·refine⟨0,0,[],[],d,C,by omega,by omega,?_⟩
  simp(maxSteps:=2000000) (disch:=first |omega | (repeat first |assumption |exact Kept.refl _ |refine Kept.set' (by assumption) ?_ ?_ |refine Kept.set (by assumption) ?_ ?_ |omega)) only[go_sem, *]
  exact⟨rfl,fun q=>q⟩
 ·clear K0
  rintro t m h' n' ih ⟨i,k,T,L,d,C,hi,rfl,q1,q2,q3,q4,q5,q6,q7,q8,q9,Y9,Vi,K⟩
  by_cases hlt:i<l.length
  ·have e7:(i:Int)<l.length:=by omega
   repeat' first |simp(maxSteps:=2000000) (disch:=first |omega | (repeat first |assumption |exact Kept.refl _ |refine Kept.set' (by assumption) ?_ ?_ |refine Kept.set (by assumption) ?_ ?_ |omega)) only[go_sem, *] | (apply xs<;>intro _)<;>try omega |refine fun (_ _:List Nat)=>?_ | (first |refine bX Tryz.func7 rfl ?_ ?_ ?_ ?_ |refine bX Tryz.func9 rfl ?_ ?_ ?_ ?_ |fail)<;>intros
   refine xR (K.tick Y9 (by omega) (by omega) (fun q=>by omega)) (by simp only[*]) (by simp only[*]) (by simp only[go_sem, *]) (by simp only[go_sem, *]) ?_
   rintro r h3 n3 ⟨rfl,hn3,g,K3⟩
   generalize Vj:upd d (71,0) g=d3 at K3
   generalize upd (upd C (71,0) _) (70,0) _=C3 at K3
   have d100:d (100,0)=d3 (100,0):=by rw[←Vj,aq (by decide)]
   rw[d100] at q6
   have KE:n1≤n3:=by omega
   have hx0:=hu (l.getD i 0) (by simp[List.getD,hlt])
   have hx1:=Int.tmod_nonneg (5:Int) hx0.1
   have hx2:=Int.tmod_lt_of_pos (l.getD i 0) (show (0:Int)<5 by decide)
   clear K Vj d100
   obtain⟨b,off,sp,Lb,ro,hab,Vk,hxb⟩:=hA i (by omega)
   subst hab
   have hsn:∀ g,mkV g (T++[(k:Int)]) = .slice (some ⟨g,0,none⟩) (T.length+1) (az+1):=fun g=>oX
   by_cases c0:T.length=0
   ·obtain rfl:T=[]:=List.length_eq_zero_iff.1 c0
    rw[ry] at q6
    repeat' first |simp(maxSteps:=2000000) (disch:=first |omega | (repeat first |assumption |exact Kept.refl _ |refine Kept.set' (by assumption) ?_ ?_ |refine Kept.set (by assumption) ?_ ?_ |omega)) only[go_sem, *] | (apply xs<;>intro _)<;>try omega |refine fun (_ _:List Nat)=>?_ | (first |refine bX Tryz.func7 rfl ?_ ?_ ?_ ?_ |refine bX Tryz.func9 rfl ?_ ?_ ?_ ?_ |fail)<;>intros
    generalize KG:(h3.set _ _).set _ _=h4
    have K4:=K3.grow KE (k:Int) (h':=h4) (X:=h4) (Y:=some (.cells (PT.ofList .leaf 0 [I6 k]) false)) (.inl ⟨rfl,KG.symm⟩)
    have HM : .slice (some ⟨n3+1,0,none⟩) 1 (az+1)=mkV (n3+1) (([]:List Int)++[(k:Int)]):=rfl
    rw[HM]
    have KH:n3+1=upd d3 (100,0) (n3+1) (100,0):=aA.symm
    generalize upd d3 (100,0) (n3+1)=d4 at K4 KH
    generalize upd C3 (100,0) _=C4 at K4
    clear KG HM K3 q6
    refine cU (fun t m h' n'=>∃ (j:Nat) (L:List Value) (d:Rl→Nat) (C:Rl→Option ak),(j:Int)≤(l.getD i 0).tmod 5∧t=5-j∧m.n=118∧m.gn=[]∧m.get 0 = .slice (some ⟨b,off,sp⟩) l.length c∧m.get 3=pt bb∧m.get 5=I6 ((k+j:Nat):Int)∧m.get 6=mkV (d (100,0)) (([]:List Int)++[(k:Int)])∧m.get 7=I6 i∧m.get 8=I6 j∧n1≤n'∧
      Ck h1 n1 bb lb v2 v3 v4 ev m1 m2 W (([]:List Int)++[(k:Int)]) (([]:List Int)++[(k:Int)]) (k+j) L d C h' n') 5 ?_ ?_
    ·refine⟨0,L,d4,C4,by omega,by omega,?_⟩
     simp(maxSteps:=2000000) (disch:=first |omega | (repeat first |assumption |exact Kept.refl _ |refine Kept.set' (by assumption) ?_ ?_ |refine Kept.set (by assumption) ?_ ?_ |omega)) only[go_sem, *]
     rw[←KH]
     exact⟨by omega,K4⟩
    ·clear K4
     rintro t m h' n' ih2 ⟨j,L,d,C,hj,rfl,p1,p2,p3,p4,p5,p6,p7,p8,p9,K⟩
     have k2:=F1.trans (K.fz.kept K.st)
     have gb:=K.st.at K.base
     rw[K.bb] at gb
     have nb:=K.st.lt K.base
     rw[K.bb] at nb
     have Rq:=k2 _ _ Vk
     by_cases Y_:(j:Int)<(l.getD i 0).tmod 5
     ·have Rr:j<W.length:=by omega
      repeat' first |simp(maxSteps:=2000000) (disch:=first |omega | (repeat first |assumption |exact Kept.refl _ |refine Kept.set' (by assumption) ?_ ?_ |refine Kept.set (by assumption) ?_ ?_ |omega)) only[go_sem, *] | (apply xs<;>intro _)<;>try omega |refine fun (_ _:List Nat)=>?_ | (first |refine bX Tryz.func7 rfl ?_ ?_ ?_ ?_ |refine bX Tryz.func9 rfl ?_ ?_ ?_ ?_ |fail)<;>intros
      refine xR (K.load p9 (by omega) Rr) (by simp only[*]) (by simp only[*]) (by simp only[go_sem, *]) (by simp only[go_sem, *]) ?_
      rintro r h5 n5 ⟨⟨x,rfl⟩,Za,L5,d5,C5,z1,z2,z3,K5⟩
      have Nn:((k+j:Nat):Int)+1=((k+(j+1):Nat):Int):=by omega
      have hj2:(j:Int)+1=((j+1:Nat):Int):=by omega
      rw[←z2] at p6
      clear K gb nb z1 z2 z3 ih
      repeat' first |simp(maxSteps:=2000000) (disch:=first |omega | (repeat first |assumption |exact Kept.refl _ |refine Kept.set' (by assumption) ?_ ?_ |refine Kept.set (by assumption) ?_ ?_ |omega)) only[go_sem, *] | (apply xs<;>intro _)<;>try omega |refine fun (_ _:List Nat)=>?_ | (first |refine bX Tryz.func7 rfl ?_ ?_ ?_ ?_ |refine bX Tryz.func9 rfl ?_ ?_ ?_ ?_ |fail)<;>intros
      refine ih2 (5-(j+1)) _ _ _ (by omega) ⟨j+1,L5,d5,C5,by omega,rfl,?_⟩
      clear ih2
      simp(maxSteps:=2000000) (disch:=first |omega | (repeat first |assumption |exact Kept.refl _ |refine Kept.set' (by assumption) ?_ ?_ |refine Kept.set (by assumption) ?_ ?_ |omega)) only[go_sem, *]
      exact⟨by omega,K5⟩
     ·have hi1:(i:Int)+1=((i+1:Nat):Int):=by omega
      clear gb nb ih2
      repeat' first |simp(maxSteps:=2000000) (disch:=first |omega | (repeat first |assumption |exact Kept.refl _ |refine Kept.set' (by assumption) ?_ ?_ |refine Kept.set (by assumption) ?_ ?_ |omega)) only[go_sem, *] | (apply xs<;>intro _)<;>try omega |refine fun (_ _:List Nat)=>?_ | (first |refine bX Tryz.func7 rfl ?_ ?_ ?_ ?_ |refine bX Tryz.func9 rfl ?_ ?_ ?_ ?_ |fail)<;>intros
      refine ih (l.length-(i+1)) _ _ _ (by omega) ⟨i+1,k+j,([]:List Int)++[(k:Int)],L,d,C,by omega,rfl,?_⟩
      clear ih
      simp(maxSteps:=2000000) (disch:=first |omega | (repeat first |assumption |exact Kept.refl _ |refine Kept.set' (by assumption) ?_ ?_ |refine Kept.set (by assumption) ?_ ?_ |omega)) only[go_sem, *]
      refine⟨by omega,?_⟩
      first |exact⟨fun _=>by omega,K⟩ | (intro _;omega)
   ·have hp:0<T.length:=by omega
    rw[nA hp] at q6
    have Gg:=K3.bf hp
    have Rt:=K3.st.at Gg
    have Ru:=K3.st.lt Gg
    have Q6:List.take i (T.map (Value.int .i64))=T.map (.int .i64):=List.take_of_length_le (by simp;omega)
    repeat' first |simp(maxSteps:=2000000) (disch:=first |omega | (repeat first |assumption |exact Kept.refl _ |refine Kept.set' (by assumption) ?_ ?_ |refine Kept.set (by assumption) ?_ ?_ |omega)) only[go_sem, *] | (apply xs<;>intro _)<;>try omega |refine fun (_ _:List Nat)=>?_ | (first |refine bX Tryz.func7 rfl ?_ ?_ ?_ ?_ |refine bX Tryz.func9 rfl ?_ ?_ ?_ ?_ |fail)<;>intros
    generalize KG:((h3.set _ _).set _ _).set _ _=h4
    have K4:=K3.grow KE (k:Int) (h':=h4) (X:=h4) (Y:=some (.cells (PT.ofList .leaf 0 [I6 k]) false)) (.inr ⟨hp,by rw[List.map_append];exact KG.symm⟩)
    have HM : .slice (some ⟨n3+1,0,none⟩) (i+1) (az+1)=mkV (n3+1) (T++[(k:Int)]):=by rw[oX,q8]
    rw[HM]
    have KH:n3+1=upd d3 (100,0) (n3+1) (100,0):=aA.symm
    generalize upd d3 (100,0) (n3+1)=d4 at K4 KH
    generalize upd C3 (100,0) _=C4 at K4
    clear KG HM K3 q6 Gg Rt Ru Q6
    refine cU (fun t m h' n'=>∃ (j:Nat) (L:List Value) (d:Rl→Nat) (C:Rl→Option ak),(j:Int)≤(l.getD i 0).tmod 5∧t=5-j∧m.n=118∧m.gn=[]∧m.get 0 = .slice (some ⟨b,off,sp⟩) l.length c∧m.get 3=pt bb∧m.get 5=I6 ((k+j:Nat):Int)∧m.get 6=mkV (d (100,0)) (T++[(k:Int)])∧m.get 7=I6 i∧m.get 8=I6 j∧n1≤n'∧
      Ck h1 n1 bb lb v2 v3 v4 ev m1 m2 W (T++[(k:Int)]) (T++[(k:Int)]) (k+j) L d C h' n') 5 ?_ ?_
    ·refine⟨0,L,d4,C4,by omega,by omega,?_⟩
     simp(maxSteps:=2000000) (disch:=first |omega | (repeat first |assumption |exact Kept.refl _ |refine Kept.set' (by assumption) ?_ ?_ |refine Kept.set (by assumption) ?_ ?_ |omega)) only[go_sem, *]
     rw[←KH]
     exact⟨by omega,K4⟩
    ·clear K4
     rintro t m h' n' ih2 ⟨j,L,d,C,hj,rfl,p1,p2,p3,p4,p5,p6,p7,p8,p9,K⟩
     have k2:=F1.trans (K.fz.kept K.st)
     have gb:=K.st.at K.base
     rw[K.bb] at gb
     have nb:=K.st.lt K.base
     rw[K.bb] at nb
     have Rq:=k2 _ _ Vk
     by_cases Y_:(j:Int)<(l.getD i 0).tmod 5
     ·have Rr:j<W.length:=by omega
      repeat' first |simp(maxSteps:=2000000) (disch:=first |omega | (repeat first |assumption |exact Kept.refl _ |refine Kept.set' (by assumption) ?_ ?_ |refine Kept.set (by assumption) ?_ ?_ |omega)) only[go_sem, *] | (apply xs<;>intro _)<;>try omega |refine fun (_ _:List Nat)=>?_ | (first |refine bX Tryz.func7 rfl ?_ ?_ ?_ ?_ |refine bX Tryz.func9 rfl ?_ ?_ ?_ ?_ |fail)<;>intros
      refine xR (K.load p9 (by omega) Rr) (by simp only[*]) (by simp only[*]) (by simp only[go_sem, *]) (by simp only[go_sem, *]) ?_
      rintro r h5 n5 ⟨⟨x,rfl⟩,Za,L5,d5,C5,z1,z2,z3,K5⟩
      have Nn:((k+j:Nat):Int)+1=((k+(j+1):Nat):Int):=by omega
      have hj2:(j:Int)+1=((j+1:Nat):Int):=by omega
      rw[←z2] at p6
      clear K gb nb z1 z2 z3 ih
      repeat' first |simp(maxSteps:=2000000) (disch:=first |omega | (repeat first |assumption |exact Kept.refl _ |refine Kept.set' (by assumption) ?_ ?_ |refine Kept.set (by assumption) ?_ ?_ |omega)) only[go_sem, *] | (apply xs<;>intro _)<;>try omega |refine fun (_ _:List Nat)=>?_ | (first |refine bX Tryz.func7 rfl ?_ ?_ ?_ ?_ |refine bX Tryz.func9 rfl ?_ ?_ ?_ ?_ |fail)<;>intros
      refine ih2 (5-(j+1)) _ _ _ (by omega) ⟨j+1,L5,d5,C5,by omega,rfl,?_⟩
      clear ih2
      simp(maxSteps:=2000000) (disch:=first |omega | (repeat first |assumption |exact Kept.refl _ |refine Kept.set' (by assumption) ?_ ?_ |refine Kept.set (by assumption) ?_ ?_ |omega)) only[go_sem, *]
      exact⟨by omega,K5⟩
     ·have hi1:(i:Int)+1=((i+1:Nat):Int):=by omega
      clear gb nb ih2
      repeat' first |simp(maxSteps:=2000000) (disch:=first |omega | (repeat first |assumption |exact Kept.refl _ |refine Kept.set' (by assumption) ?_ ?_ |refine Kept.set (by assumption) ?_ ?_ |omega)) only[go_sem, *] | (apply xs<;>intro _)<;>try omega |refine fun (_ _:List Nat)=>?_ | (first |refine bX Tryz.func7 rfl ?_ ?_ ?_ ?_ |refine bX Tryz.func9 rfl ?_ ?_ ?_ ?_ |fail)<;>intros
      refine ih (l.length-(i+1)) _ _ _ (by omega) ⟨i+1,k+j,T++[(k:Int)],L,d,C,by omega,rfl,?_⟩
      clear ih
      simp(maxSteps:=2000000) (disch:=first |omega | (repeat first |assumption |exact Kept.refl _ |refine Kept.set' (by assumption) ?_ ?_ |refine Kept.set (by assumption) ?_ ?_ |omega)) only[go_sem, *]
      refine⟨by omega,?_⟩
      first |exact⟨fun _=>by omega,K⟩ | (intro _;(rw[List.getElem?_append_left hp];exact Vi hp))
  ·have e7: ¬ (i:Int)<l.length:=by omega
   obtain rfl:i=l.length:=by omega
   clear ih
   obtain⟨z1,z2⟩:T.length≤l.length∧l.length≤T.length:=⟨by omega,by omega⟩
   have Rv:∀ j,j<T.length→Dn T k j=pZ [I6 (T.getD j 0),I6 0]:=fun j hj=>by
    unfold Dn
    rw[if_neg (by omega)]
    split
    ·rename_i c;subst c;have:=Vi (by omega);simp[List.getD,this]
    ·rw[if_neg (by omega)]
   have rI:Dn T k (max l.length 1)=pZ [I6 k,I6 0]:=by
    unfold Dn
    rw[if_neg (by omega),if_neg (by omega),if_pos (by omega)]
   have qq:Dn T k (l.length+2)=pZ [I6 0,I6 3]:=by
    unfold Dn
    rw[if_pos (by omega)]
   have hmx:(if (l.length:Int)>1 then (l.length:Int) else 1)=((max l.length 1:Nat):Int):=by split<;>omega
   have Zb:(if (1:Int)>l.length then 1 else (l.length:Int))=((max l.length 1:Nat):Int):=by split<;>omega
   have hm2:(l.length:Int)+2=((l.length+2:Nat):Int):=by omega
   have Vl:=K.before (by omega) (max l.length 1)
   have Vm:=K.before (by omega) (l.length+2)
   rw[rI] at Vl
   rw[qq] at Vm
   have hmk:mkV (d (100,0)) T = .slice (if T.length=0 then none else some ⟨d (100,0),0,none⟩) T.length (if T.length=0 then 0 else az+1):=by unfold mkV;split<;>simp_all
   rw[hmk] at q6
   clear q8 rI qq hmk
   repeat' first |simp(maxSteps:=2000000) (disch:=first |omega | (repeat first |assumption |exact Kept.refl _ |refine Kept.set' (by assumption) ?_ ?_ |refine Kept.set (by assumption) ?_ ?_ |omega)) only[go_sem, *] | (apply xs<;>intro _)<;>try omega |refine fun (_ _:List Nat)=>?_ | (first |refine bX Tryz.func7 rfl ?_ ?_ ?_ ?_ |refine bX Tryz.func9 rfl ?_ ?_ ?_ ?_ |fail)<;>intros
   refine cU (fun t m h'' Vn=>∃ j:Nat,j≤l.length∧t=l.length-j∧m.n=118∧m.gn=[]∧m.get 0 = .slice a l.length c∧m.get 3=pt bb∧m.get 5=I6 k∧m.get 6 = .slice (if T.length=0 then none else some ⟨d (100,0),0,none⟩) T.length (if T.length=0 then 0 else az+1)∧m.get 11=I6 j∧h''=h'∧Vn=n') l.length ?_ ?_
   ·refine⟨0,by omega,by omega,?_⟩
    simp(maxSteps:=2000000) (disch:=first |omega | (repeat first |assumption |exact Kept.refl _ |refine Kept.set' (by assumption) ?_ ?_ |refine Kept.set (by assumption) ?_ ?_ |omega)) only[go_sem, *]
   ·rintro t m h'' Vn ih ⟨j,hj,rfl,p1,p2,p3,p4,p5,p6,p7,rfl,rfl⟩
    by_cases hjl:j<l.length
    ·have Nn:(j:Int)<T.length:=by omega
     rw[if_neg (by omega),if_neg (by omega)] at p6
     have gb:=K.st.at (K.bf (by omega))
     have hgj:(T.map (Value.int .i64))[j]? = some (.int .i64 (T.getD j 0)):=by rw[List.getElem?_map,List.getElem?_eq_getElem (by omega)];simp[List.getD,show j<T.length by omega]
     have Vo:=K.before (by omega) j
     rw[Rv j (by omega)] at Vo
     clear Rv
     repeat' first |simp(maxSteps:=2000000) (disch:=first |omega | (repeat first |assumption |exact Kept.refl _ |refine Kept.set' (by assumption) ?_ ?_ |refine Kept.set (by assumption) ?_ ?_ |omega)) only[go_sem, *] | (apply xs<;>intro _)<;>try omega |refine fun (_ _:List Nat)=>?_ | (first |refine bX Tryz.func7 rfl ?_ ?_ ?_ ?_ |refine bX Tryz.func9 rfl ?_ ?_ ?_ ?_ |fail)<;>intros
     refine xR (Vo) (by simp only[*]) (by simp only[*]) (by simp only[go_sem, *]) (by simp only[go_sem, *]) ?_
     rintro r h3 n3 ⟨rfl,rfl,rfl⟩
     repeat' first |simp(maxSteps:=2000000) (disch:=first |omega | (repeat first |assumption |exact Kept.refl _ |refine Kept.set' (by assumption) ?_ ?_ |refine Kept.set (by assumption) ?_ ?_ |omega)) only[go_sem, *] | (apply xs<;>intro _)<;>try omega |refine fun (_ _:List Nat)=>?_ | (first |refine bX Tryz.func7 rfl ?_ ?_ ?_ ?_ |refine bX Tryz.func9 rfl ?_ ?_ ?_ ?_ |fail)<;>intros
     refine ih (l.length-(j+1)) _ _ _ (by omega) ⟨j+1,by omega,rfl,?_⟩
     clear ih
     have hj2:(j:Int)+1=((j+1:Nat):Int):=by omega
     rw[if_neg (by omega),if_neg (by omega)]
     simp(maxSteps:=2000000) (disch:=first |omega | (repeat first |assumption |exact Kept.refl _ |refine Kept.set' (by assumption) ?_ ?_ |refine Kept.set (by assumption) ?_ ?_ |omega)) only[go_sem, *]
    ·have Nn: ¬ (j:Int)<T.length:=by omega
     clear ih Rv
     repeat' first |simp(maxSteps:=2000000) (disch:=first |omega | (repeat first |assumption |exact Kept.refl _ |refine Kept.set' (by assumption) ?_ ?_ |refine Kept.set (by assumption) ?_ ?_ |omega)) only[go_sem, *] | (apply xs<;>intro _)<;>try omega |refine fun (_ _:List Nat)=>?_ | (first |refine bX Tryz.func7 rfl ?_ ?_ ?_ ?_ |refine bX Tryz.func9 rfl ?_ ?_ ?_ ?_ |fail)<;>intros
     refine xR (Vl) (by simp only[*]) (by simp only[*]) (by simp only[go_sem, *]) (by simp only[go_sem, *]) ?_
     rintro r h3 n3 ⟨rfl,rfl,rfl⟩
     repeat' first |simp(maxSteps:=2000000) (disch:=first |omega | (repeat first |assumption |exact Kept.refl _ |refine Kept.set' (by assumption) ?_ ?_ |refine Kept.set (by assumption) ?_ ?_ |omega)) only[go_sem, *] | (apply xs<;>intro _)<;>try omega |refine fun (_ _:List Nat)=>?_ | (first |refine bX Tryz.func7 rfl ?_ ?_ ?_ ?_ |refine bX Tryz.func9 rfl ?_ ?_ ?_ ?_ |fail)<;>intros
     refine xR (Vm) (by simp only[*]) (by simp only[*]) (by simp only[go_sem, *]) (by simp only[go_sem, *]) ?_
     rintro r h3 n3 ⟨rfl,rfl,rfl⟩
     repeat' first |simp(maxSteps:=2000000) (disch:=first |omega | (repeat first |assumption |exact Kept.refl _ |refine Kept.set' (by assumption) ?_ ?_ |refine Kept.set (by assumption) ?_ ?_ |omega)) only[go_sem, *,sV] | (apply xs<;>intro _)<;>try omega |refine fun (_ _:List Nat)=>?_ | (first |refine bX Tryz.func7 rfl ?_ ?_ ?_ ?_ |refine bX Tryz.func9 rfl ?_ ?_ ?_ ?_ |fail)<;>intros
     done
end Go.Proofs.YtfhmopghjoeamaaGreat
set_option linter.unusedVariables false
set_option linter.unusedSimpArgs false
namespace Go.Proofs.YtfhmopghjoeamaaGreat
open Go.Am
theorem wB {h:PT ak} {q:Nat} {s:Value} {A:List (List Int)} (H:lS [.int .u8] h q s A):aZ .u8 h s (A.map fun r=>r.getD 0 0)∧∀ x∈A.map (fun r=>r.getD 0 0),0≤x∧x<256:=by
 obtain⟨h1,h2⟩:=H
 have one:∀ r∈A,∃ v,r=[v]∧0≤v∧v<256:=fun r hr=>by
  obtain⟨e,w⟩:=h1 r hr
  match r,e with
  | [v],_=>exact⟨v,rfl,Av w.1⟩
 have hrow:ey [.int .u8] A=(A.map fun r=>r.getD 0 0).map (.int .u8):=by
  clear h1 h2
  induction A with
  |nil=>rfl
  |cons r A ih=>
   obtain⟨v,rfl,-⟩:=one r (by simp)
   have:=ih fun x hx=>one x (by simp[hx])
   unfold ey at*
   rw[List.flatMap_cons,this]
   rfl
 refine⟨?_,fun x hx=>?_⟩
 ·rcases h2 with ⟨rfl,rfl⟩ | ⟨cap,rfl,-,-,hb⟩
  ·exact .inl ⟨rfl,rfl⟩
  ·rw[hrow] at hb
   refine .inr ⟨q,0,none,cap,_,true,by rw[List.length_map],hb,?_,?_⟩
   ·simp
   ·rw[List.drop_zero];exact List.take_of_length_le (by simp)
 ·obtain⟨r,hr,rfl⟩:=List.mem_map.1 hx
  obtain⟨v,rfl,hv⟩:=one r hr
  exact hv
theorem Gh (s:Value) (A:List (List Int)) (q:Nat) (h:PT ak) (N:Nat) (hW:cW h N) (hA:lS [.int .u8] h q s A):
  gN Tryz.prog OB 3 [s] h N fun v h' n'=>v = .bool true:=
 Gf h N hW (wB hA).1 (wB hA).2
end Go.Proofs.YtfhmopghjoeamaaGreat
