/-
  A part of the proof: contracts of inner functions.
-/
import Derived.Test.YtofmbmclopgldaaGreatCC1
import Derived.Test.YtofmbmclopgldaaGreatAmV4
set_option linter.unusedVariables false
set_option linter.unusedSimpArgs false
namespace Go.Proofs.YtofmbmclopgldaaGreat
open Go.Am
theorem Vo {l:cK} {V:Int} {sz v:Nat} (hn:wW l V sz) (hv:(v:Int)<V) (hge:l.P.getD 8 0≤sz):∃ a:Nat,Bo l (-1-(v:Int)) 0=a∧a<sz∧(jH l)[a]? = some 0∧wT l (-1-(v:Int)) 0=0:=by
 have h2:=hn.V2
 have z2:=hn.RE
 obtain⟨p71,p72⟩:=hn.p7
 have p73:=hn.p7'
 have p8:=hn.p8
 have p9:=hn.p9
 have i5:=hn.KR.p5
 have i6:=hn.KR.p6
 have hw:IntKind.i64.wrap (-1-(-1-(v:Int)))=v:=by rw[wrap_i64 (by omega) (by omega)];omega
 have hd:jG l (-1-(v:Int)):=⟨by omega,by rw[hw,hn.eV];exact hv⟩
 refine⟨(l.P.getD 7 0).toNat+v*7+1,?_,by omega,?_,?_⟩
 ·unfold Bo
  rw[if_pos ⟨hd,by omega,by omega⟩]
  unfold vg
  rw[hw,wrap_i64 (x:=(v:Int)*7) (by omega) (by omega),wrap_i64 (x:=l.P.getD 7 0+(v:Int)*7) (by omega) (by omega),wrap_i64 (x:=l.P.getD 7 0+(v:Int)*7+1) (by omega) (by omega),wrap_i64 (x:=l.P.getD 7 0+(v:Int)*7+1+0) (by omega) (by omega)]
  omega
 ·unfold jH
  rw[tZ (by omega)]
  unfold vi
  rw[if_neg (by omega),if_neg (by omega)]
 ·unfold wT
  rw[if_pos ⟨hd,by omega,by omega⟩]
theorem Vp {l:cK} {V:Int} {sz v:Nat} (hn:wW l V sz) (hv:(v:Int)=V):wT l (-1-(v:Int)) 0=3:=by
 have h2:=hn.V2
 have hw:IntKind.i64.wrap (-1-(-1-(v:Int)))=v:=by rw[wrap_i64 (by omega) (by omega)];omega
 unfold wT
 have hd: ¬ jG l (-1-(v:Int)):=fun c=>by
  have:=c.2
  rw[hw,hn.eV] at this
  omega
 rw[if_neg fun c=>hd c.1,if_neg]
 intro c
 unfold Bn at c
 omega
end Go.Proofs.YtofmbmclopgldaaGreat
set_option linter.unusedVariables false
set_option linter.unusedSimpArgs false
namespace Go.Proofs.YtofmbmclopgldaaGreat
open Go.Am
set_option maxRecDepth 100000 in
set_option maxHeartbeats 8000000 in
theorem Vq {h h0:PT ak} {n n0 tb mb wb lb p1 p2 p3 v a sz:Nat} {y lg:Value} {W:List Int} {l:cK} {V:Int} (hn:wW l V sz) (hk:Kept h0 h) (RV:bL h0 n0) (hn0:n0≤n) (hW:bL h n) (hl0:(tI (pt lb)).look h0=some l) (h1:h.get p1=row [pt tb]) (h2:h.get p2=row [I6 v]) (h3:h.get p3=row [I6 0]) (ht:h.get tb=row [pt mb,pt lb]) (hm:h.get mb=row [.slice (some ⟨wb,0,none⟩) W.length W.length,lg]) (hw:h.get wb=row (W.map (.int .u64))) (hv:v≤64)
  (e1:Bo l (-1-(v:Int)) 0=a) (e2:wT l (-1-(v:Int)) 0=0) (ha:W[a]? = some 0) (vk:W.length≤65536):
  cW Tryz.prog OB 129 [y,pt p1,pt p2,pt p3] h n fun _ h' n'=>Kept h h'∧bL h' n'∧n≤n':=by
 have hrl:=fun h' hk z f d ops r K m n=>@cE _ _ _ _ h' hl0 z f d ops r K m n hk
 have hlen:=hn.KR.len
 have hal:a<W.length:=(List.getElem?_eq_some_iff.1 ha).1
 have hga:(W.map (Value.int .u64))[a]? = some (U6 0):=by rw[List.getElem?_map,ha];rfl
 have Z7:(0:Int)≤(a:Int):=by omega
 have hc4:(a:Int)<(W.length:Int):=by omega
 have hH7:(l.H.length:Int)+1=((l.H.length+1:Nat):Int):=by omega
 have Z8:Nat.ble (l.H.length+1) 1048576=true:=Nat.ble_eq_true_of_le (by omega)
 have q1:=hW.lt h1
 have q2:=hW.lt h2
 have q3:=hW.lt h3
 have q4:=hW.lt ht
 have q5:=hW.lt hm
 have q6:=hW.lt hw
 clear hn hl0
 refine ay (N:=62) Tryz.func129 rfl rfl fun z hP hO hro hN hQ=>?_
 repeat' first |simp(maxSteps:=2000000) (disch:=first |omega | (repeat first |assumption |exact Kept.refl _ |refine Kept.set' (by assumption) ?_ ?_ |refine Kept.set (by assumption) ?_ ?_ |omega)) only[go_sem, *,kN,qK,tK] | (apply xs<;>intro _)<;>try omega |refine fun (_ _:List Nat)=>?_ | (first |refine aJ Tryz.func130 rfl ?_ ?_ ?_ ?_ |refine aJ Tryz.func104 rfl ?_ ?_ ?_ ?_ |refine aJ Tryz.func114 rfl ?_ ?_ ?_ ?_ |refine aJ Tryz.func69 rfl ?_ ?_ ?_ ?_ |refine aJ Tryz.func178 rfl ?_ ?_ ?_ ?_ |fail)<;>intros
 rw[bX]
 repeat' first |simp(maxSteps:=2000000) (disch:=first |omega | (repeat first |assumption |exact Kept.refl _ |refine Kept.set' (by assumption) ?_ ?_ |refine Kept.set (by assumption) ?_ ?_ |omega)) only[go_sem, *] | (apply xs<;>intro _)<;>try omega |refine fun (_ _:List Nat)=>?_ | (first |refine aJ Tryz.func130 rfl ?_ ?_ ?_ ?_ |refine aJ Tryz.func104 rfl ?_ ?_ ?_ ?_ |refine aJ Tryz.func114 rfl ?_ ?_ ?_ ?_ |refine aJ Tryz.func69 rfl ?_ ?_ ?_ ?_ |refine aJ Tryz.func178 rfl ?_ ?_ ?_ ?_ |fail)<;>intros
 exact⟨hW.kept (Nat.le_refl _),hW.set (Nat.le_succ _) (Nat.lt_succ_self _),Nat.le_succ _⟩
end Go.Proofs.YtofmbmclopgldaaGreat
set_option linter.unusedVariables false
set_option linter.unusedSimpArgs false
namespace Go.Proofs.YtofmbmclopgldaaGreat
open Go.Am
set_option maxRecDepth 100000 in
set_option maxHeartbeats 8000000 in
theorem Qf {y:Value} (h:PT ak) (N:Nat):cW Tryz.prog OB 196 [.slice none 0 0,I6 0,I6 0,y] h N fun v h' n'=>v=nD []∧h'=h∧n'=N:=by
 refine ay (N:=53) Tryz.func196 rfl rfl fun z hP hO hro hN hQ=>?_
 repeat' first |simp(maxSteps:=2000000) (disch:=first |omega | (repeat first |assumption |exact Kept.refl _ |refine Kept.set' (by assumption) ?_ ?_ |refine Kept.set (by assumption) ?_ ?_ |omega)) only[go_sem, *] | (apply xs<;>intro _)<;>try omega
 rw[bX]
 repeat' first |simp(maxSteps:=2000000) (disch:=first |omega | (repeat first |assumption |exact Kept.refl _ |refine Kept.set' (by assumption) ?_ ?_ |refine Kept.set (by assumption) ?_ ?_ |omega)) only[go_sem, *] | (apply xs<;>intro _)<;>try omega
 all_goals rfl
set_option maxRecDepth 100000 in
set_option maxHeartbeats 8000000 in
theorem Ll {y:Value} (h:PT ak) (N:Nat):cW Tryz.prog OB 136 [.slice none 0 0,I6 0,y] h N fun v h' n'=>v=nD []∧h'=h∧n'=N:=by
 refine ay (N:=63) Tryz.func136 rfl rfl fun z hP hO hro hN hQ=>?_
 repeat' first |simp(maxSteps:=2000000) (disch:=first |omega | (repeat first |assumption |exact Kept.refl _ |refine Kept.set' (by assumption) ?_ ?_ |refine Kept.set (by assumption) ?_ ?_ |omega)) only[go_sem, *] | (apply xs<;>intro _)<;>try omega
 rw[bX]
 repeat' first |simp(maxSteps:=2000000) (disch:=first |omega | (repeat first |assumption |exact Kept.refl _ |refine Kept.set' (by assumption) ?_ ?_ |refine Kept.set (by assumption) ?_ ?_ |omega)) only[go_sem, *] | (apply xs<;>intro _)<;>try omega
 refine iH (Qf h N) (by simp only[*]) (by simp only[*]) (by simp only[go_sem, *]) (by simp only[go_sem, *]) ?_
 rintro v h2 n2 ⟨rfl,rfl,rfl⟩
 repeat' first |simp(maxSteps:=2000000) (disch:=first |omega | (repeat first |assumption |exact Kept.refl _ |refine Kept.set' (by assumption) ?_ ?_ |refine Kept.set (by assumption) ?_ ?_ |omega)) only[go_sem, *] | (apply xs<;>intro _)<;>try omega
 rw[bX]
 repeat' first |simp(maxSteps:=2000000) (disch:=first |omega | (repeat first |assumption |exact Kept.refl _ |refine Kept.set' (by assumption) ?_ ?_ |refine Kept.set (by assumption) ?_ ?_ |omega)) only[go_sem, *] | (apply xs<;>intro _)<;>try omega
 all_goals rfl
set_option maxRecDepth 100000 in
set_option maxHeartbeats 8000000 in
theorem Lm {y:Value} (h:PT ak) (N:Nat):cW Tryz.prog OB 60 [.slice none 0 0,y] h N fun v h' n'=>v=nD []∧h'=h∧n'=N:=by
 refine ay (N:=9) Tryz.func60 rfl rfl fun z hP hO hro hN hQ=>?_
 repeat' first |simp(maxSteps:=2000000) (disch:=first |omega | (repeat first |assumption |exact Kept.refl _ |refine Kept.set' (by assumption) ?_ ?_ |refine Kept.set (by assumption) ?_ ?_ |omega)) only[go_sem, *] | (apply xs<;>intro _)<;>try omega
 refine iH (Ll h N) (by simp only[*]) (by simp only[*]) (by simp only[go_sem, *]) (by simp only[go_sem, *]) ?_
 rintro v h2 n2 ⟨rfl,rfl,rfl⟩
 repeat' first |simp(maxSteps:=2000000) (disch:=first |omega | (repeat first |assumption |exact Kept.refl _ |refine Kept.set' (by assumption) ?_ ?_ |refine Kept.set (by assumption) ?_ ?_ |omega)) only[go_sem, *] | (apply xs<;>intro _)<;>try omega
 all_goals rfl
set_option maxRecDepth 100000 in
set_option maxHeartbeats 8000000 in
theorem Ln {y:Value} (h:PT ak) (N:Nat):cW Tryz.prog OB 63 [.slice none 0 0,y] h N fun v h' n'=>v = .slice none 0 0∧h'=h∧n'=N:=by
 refine ay (N:=66) Tryz.func63 rfl rfl fun z hP hO hro hN hQ=>?_
 repeat' first |simp(maxSteps:=2000000) (disch:=first |omega | (repeat first |assumption |exact Kept.refl _ |refine Kept.set' (by assumption) ?_ ?_ |refine Kept.set (by assumption) ?_ ?_ |omega)) only[go_sem, *] | (apply xs<;>intro _)<;>try omega
end Go.Proofs.YtofmbmclopgldaaGreat
set_option linter.unusedVariables false
set_option linter.unusedSimpArgs false
namespace Go.Proofs.YtofmbmclopgldaaGreat
open Go.Am
theorem vq:∀ (D:List Nat) (h:PT ak),D.Nodup→(∀ d∈D,h.get d=some .deferred)→∃ h2,kX D h=some h2∧∀ i,¬i∈D→h2.get i=h.get i
 | [],h,_,_=>⟨h,rfl,fun _ _=>rfl⟩
 |d::D,h,hn,hd=>by
  rw[List.nodup_cons] at hn
  obtain⟨h2,e,q⟩:=vq D (h.set d none) hn.2 fun x hx=>by
   have:x≠d:=fun e=>hn.1 (e ▸ hx)
   rw[PT.bO _ _ (Ne.symm this)]
   exact hd x (by simp[hx])
  refine⟨h2,?_,fun i hi=>?_⟩
  ·rw[kX,hd d (by simp)];exact e
  ·simp only[List.mem_cons,not_or] at hi
   rw[q i hi.2,PT.bO _ _ (Ne.symm hi.1)]
theorem Lp {z:Zx} {c:Code} {K:List KF} {m:Tm} {h:PT ak} {n:Nat} (Q:Tm→Prop) (hp:Q m) (H:∀ m',Q m'→fJ z c K m' h n):fJ z c K m h n:=H m hp
set_option maxRecDepth 100000 in
set_option maxHeartbeats 8000000 in
theorem Qg {h h0:PT ak} {N n0 tb mb wb lb sz:Nat} {lg:Value} {W:List Int} {l:cK} {V:Int} (hn:wW l V sz) (hk:Kept h0 h) (RV:bL h0 n0) (hn0:n0≤N) (hW:bL h N) (hl0:(tI (pt lb)).look h0=some l) (ht:h.get tb=row [pt mb,pt lb]) (hm:h.get mb=row [.slice (some ⟨wb,0,none⟩) W.length W.length,lg]) (hw:h.get wb=row (W.map (.int .u64))) (hWi:W=jH l) (hge:l.P.getD 8 0≤sz) (vk:W.length≤65536):
  cW Tryz.prog OB 12 [pt tb] h N fun v h' n'=>v=nD [.slice none 0 0,I6 0]∧Kept h h':=by
 have hrl:=fun h' hk z f d ops r K m n=>@cE _ _ _ _ h' hl0 z f d ops r K m n hk
 have q4:=hW.lt ht
 have q5:=hW.lt hm
 have q6:=hW.lt hw
 have hV1:=hn.V1
 have hV2:=hn.V2
 obtain⟨V,rfl⟩:=Int.eq_ofNat_of_zero_le (show 0≤V by omega)
 refine Gq (N:=54) Tryz.func12 rfl rfl fun z hP hO hro hN hQ=>?_
 repeat' first |simp(maxSteps:=2000000) (disch:=first |omega | (repeat first |assumption |exact Kept.refl _ |refine Kept.set' (by assumption) ?_ ?_ |refine Kept.set (by assumption) ?_ ?_ |omega)) only[go_sem, *] | (apply xs<;>intro _)<;>try omega |refine fun (_ _:List Nat)=>?_ | (first |refine aJ Tryz.func58 rfl ?_ ?_ ?_ ?_ |fail)<;>intros
 generalize By:(h.set N _).set (N+1) _=h1
 have b1:h1.get N=row [pt tb]:=by rw[←By,aE (by omega)];exact bC
 have b2:h1.get (N+1)=row [.slice none 0 0]:=by rw[←By];exact bC
 have k1:Kept h h1:=by rw[←By];exact Kept.set' hW (by omega) (hW.kept (Nat.le_refl _))
 have w1:bL h1 (N+2):=by rw[←By];exact bL.set' (by omega) (hW.set (by omega) (by omega))
 clear By
 refine bY (fun t m h' n'=>∃ (v:Nat) (D:List Nat),v≤V∧t=V-v∧m.n=54∧m.eS=D∧m.get 1=pt N∧m.get 4=pt (N+1)∧m.get 5=I6 v∧D.Nodup∧(∀ d∈D,N+2≤d∧h'.get d=some .deferred)∧Kept h1 h'∧bL h' n'∧N+2≤n') V ?_ ?_
 ·refine⟨0,[],by omega,by omega,?_⟩
  simp(maxSteps:=2000000) (disch:=first |omega | (repeat first |assumption |exact Kept.refl _ |refine Kept.set' (by assumption) ?_ ?_ |refine Kept.set (by assumption) ?_ ?_ |omega)) only[go_sem, *]
  exact⟨List.nodup_nil,by simp,Kept.refl _,Nat.le_refl _⟩
 ·rintro t m h' n' ih ⟨v,D,hv,rfl,m1,m2,m3,m4,m5,d1,d2,q1,q2,q3⟩
  have k2:=hk.trans (k1.trans q1)
  have c1:=q1 _ _ b1
  have c2:=q1 _ _ b2
  have ct:=(k1.trans q1) _ _ ht
  by_cases hlt:v<V
  ·obtain⟨a,e1,ha,ea,e2⟩:=Vo hn (show (v:Int)<(V:Int) by omega) hge
   have cm:=(k1.trans q1) _ _ hm
   have cw:=(k1.trans q1) _ _ hw
   repeat' first |simp(maxSteps:=2000000) (disch:=first |omega | (repeat first |assumption |exact Kept.refl _ |refine Kept.set' (by assumption) ?_ ?_ |refine Kept.set (by assumption) ?_ ?_ |omega)) only[go_sem, *,qK,tK] | (apply xs<;>intro _)<;>try omega |refine fun (_ _:List Nat)=>?_ | (first |refine aJ Tryz.func58 rfl ?_ ?_ ?_ ?_ |fail)<;>intros
   generalize RW:((h'.set n' _).set (n'+1) _).set (n'+1+1) _=h5
   have k5:Kept h' h5:=by rw[←RW];exact Kept.set' q2 (by omega) (Kept.set' q2 (by omega) (q2.kept (Nat.le_refl _)))
   have w5:bL h5 (n'+1+1+1):=by rw[←RW];exact bL.set' (by omega) (bL.set' (by omega) (q2.set (by omega) (by omega)))
   have f1:h5.get n'=row [pt tb]:=by rw[←RW];simp(disch:=omega) only[aE,bC]
   have f2:h5.get (n'+1)=row [I6 v]:=by rw[←RW];simp(disch:=omega) only[aE,bC]
   have f3:h5.get (n'+1+1)=row [I6 0]:=by rw[←RW];exact bC
   clear RW
   refine Lp (fun m'=>m'.n=54∧m'.eS=D∧m'.get 1=pt N∧m'.get 4=pt (N+1)∧m'.get 5=I6 v∧m'.get 31 = .func (.func 129) ⟨[]⟩ ⟨[pt n',pt (n'+1),pt (n'+1+1)]⟩) ?_ ?_
   ·clear ih
    simp(maxSteps:=2000000) (disch:=first |omega | (repeat first |assumption |exact Kept.refl _ |refine Kept.set' (by assumption) ?_ ?_ |refine Kept.set (by assumption) ?_ ?_ |omega)) only[go_sem, *]
   clear m1 m2 m3 m4 m5
   rintro m ⟨m1,m2,m3,m4,m5,m6⟩
   have ado:∀ d∈D,d<n':=fun d hd=>q2.lt (d2 d hd).2
   refine DH (f:=129) (args:=[.func (.yield (n'+1+1+1+1)) ⟨[]⟩ ⟨[]⟩,pt n',pt (n'+1),pt (n'+1+1)]) (by rw[m1,hN]) hro rfl m6 (by rw[hP];rfl) (by rw[hO];rfl) (by
    rw[hP,hO]
    exact Vq (y := .func (.yield (n'+1+1+1+1)) ⟨[]⟩ ⟨[]⟩) (p1:=n') (p2:=n'+1) (p3:=n'+1+1) (wb:=wb) (mb:=mb) (lg:=lg) (W:=W) hn (Kept.set' RV (by omega) (Kept.set' RV (by omega) (k2.trans k5))) RV (by omega) (bL.set' (by omega) (w5.set (by omega) (by omega))) hl0 (by simp(disch:=omega) only[aE];exact f1) (by simp(disch:=omega) only[aE];exact f2) (by simp(disch:=omega) only[aE];exact f3) (by have:=q2.lt ct;simp(disch:=omega) only[aE];exact k5 _ _ ct) (by have:=q2.lt cm;simp(disch:=omega) only[aE];exact k5 _ _ cm) (by have:=q2.lt cw;simp(disch:=omega) only[aE];exact k5 _ _ cw) (by omega) e1 e2 (by rw[hWi];exact ea) vk) ?_
   rintro-h6 n6 ⟨k6,w6,hn6⟩
   have g6:=k6 _ _ bC
   have gd6:=k6 (n'+1+1+1) .deferred (by rw[aE (by omega)];exact bC)
   refine⟨g6,?_⟩
   have k56:Kept h5 h6:=(Kept.set' w5 (by omega) (w5.kept (Nat.le_refl _))).trans k6
   generalize hh7:h6.set (n'+1+1+1+1) _=h7
   have k7:Kept h5 h7:=by rw[←hh7];exact Kept.set' w5 (by omega) k56
   have gd7:h7.get (n'+1+1+1)=some .deferred:=by rw[←hh7,aE (by omega)];exact gd6
   have w7:bL h7 n6:=by rw[←hh7];exact bL.set' (by omega) w6
   have k17:Kept h1 h7:=q1.trans (k5.trans k7)
   have hdd:∀ d∈(n'+1+1+1)::D,N+2≤d∧h7.get d=some .deferred:=fun d hd=>by
    rcases List.mem_cons.1 hd with rfl |hd
    ·exact⟨by omega,gd7⟩
    ·exact⟨(d2 d hd).1,k7 _ _ (k5 _ _ (d2 d hd).2)⟩
   have hDn:((n'+1+1+1)::D).Nodup:=List.nodup_cons.2 ⟨fun q=>by have:=ado _ q;omega,d1⟩
   have KT:(v:Int)+1=((v+1:Nat):Int):=by omega
   clear g6 gd6 k6 k56 f1 f2 f3 hh7 c1 c2 ct cm cw d2 k2 k5 k7 w5 w6 m6 hrl
   repeat' first |simp(maxSteps:=2000000) (disch:=first |omega | (repeat first |assumption |exact Kept.refl _ |refine Kept.set' (by assumption) ?_ ?_ |refine Kept.set (by assumption) ?_ ?_ |omega)) only[go_sem, *] | (apply xs<;>intro _)<;>try omega |refine fun (_ _:List Nat)=>?_ | (first |refine aJ Tryz.func58 rfl ?_ ?_ ?_ ?_ |fail)<;>intros
   refine ih (V-(v+1)) _ _ _ (by omega) ⟨v+1,(n'+1+1+1)::D,by omega,rfl,?_⟩
   clear ih
   simp(maxSteps:=2000000) (disch:=first |omega | (repeat first |assumption |exact Kept.refl _ |refine Kept.set' (by assumption) ?_ ?_ |refine Kept.set (by assumption) ?_ ?_ |omega)) only[go_sem, *]
   exact⟨hdd,by omega⟩
  ·obtain rfl:v=V:=by omega
   have e3:=Vp hn rfl
   obtain⟨hD,hkD,adp⟩:=vq D h' d1 fun d hd=>(d2 d hd).2
   have kD:Kept h hD:=fun i B e=>by
    have a:=hW.lt e
    rw[adp i (fun q=>by have:=(d2 i q).1;omega)]
    exact q1 _ _ (k1 _ _ e)
   clear ih
   repeat' first |simp(maxSteps:=2000000) (disch:=first |omega | (repeat first |assumption |exact Kept.refl _ |refine Kept.set' (by assumption) ?_ ?_ |refine Kept.set (by assumption) ?_ ?_ |omega)) only[go_sem, *,qK,tK] | (apply xs<;>intro _)<;>try omega |refine fun (_ _:List Nat)=>?_ | (first |refine aJ Tryz.func58 rfl ?_ ?_ ?_ ?_ |fail)<;>intros
   refine iH (Lm h' n') (by simp only[*]) (by simp only[*]) (by simp only[go_sem, *]) (by simp only[go_sem, *]) ?_
   rintro r h2 n2 ⟨rfl,rfl,rfl⟩
   repeat' first |simp(maxSteps:=2000000) (disch:=first |omega | (repeat first |assumption |exact Kept.refl _ |refine Kept.set' (by assumption) ?_ ?_ |refine Kept.set (by assumption) ?_ ?_ |omega)) only[go_sem, *] | (apply xs<;>intro _)<;>try omega |refine fun (_ _:List Nat)=>?_ | (first |refine aJ Tryz.func58 rfl ?_ ?_ ?_ ?_ |fail)<;>intros
   refine iH (Ln h2 n2) (by simp only[*]) (by simp only[*]) (by simp only[go_sem, *]) (by simp only[go_sem, *]) ?_
   rintro r h3 n3 ⟨rfl,rfl,rfl⟩
   clear hrl
   repeat' first |simp(maxSteps:=2000000) (disch:=first |omega | (repeat first |assumption |exact Kept.refl _ |refine Kept.set' (by assumption) ?_ ?_ |refine Kept.set (by assumption) ?_ ?_ |omega)) only[go_sem, *] | (apply xs<;>intro _)<;>try omega |refine fun (_ _:List Nat)=>?_ | (first |refine aJ Tryz.func58 rfl ?_ ?_ ?_ ?_ |fail)<;>intros
end Go.Proofs.YtofmbmclopgldaaGreat
set_option linter.unusedVariables false
set_option linter.unusedSimpArgs false
namespace Go.Proofs.YtofmbmclopgldaaGreat
open Go.Am
set_option maxRecDepth 100000 in
set_option maxHeartbeats 8000000 in
theorem BG {h:PT ak} {N mb wb:Nat} {lg:Value} {W:List Int} (hW:bL h N) (hm:h.get mb=row [.slice (some ⟨wb,0,none⟩) W.length W.length,lg]) (hw:h.get wb=row (W.map (.int .u64))) (vk:W.length≤65536):
  cW Tryz.prog OB 20 [pt mb] h N fun r h' n'=>aW .u64 h' r W∧Kept h h'∧bL h' n'∧N≤n':=by
 have q5:=hW.lt hm
 have q6:=hW.lt hw
 have Z8:Nat.ble W.length 1048576=true:=Nat.ble_eq_true_of_le (by omega)
 have hz:rep [Value.int .u64 0] W.length=(List.replicate W.length (0:Int)).map (.int .u64):=by rw[nh,List.map_replicate]
 refine ay (N:=33) Tryz.func20 rfl rfl fun z hP hO hro hN hQ=>?_
 repeat' first |simp(maxSteps:=2000000) (disch:=first |omega | (repeat first |assumption |exact Kept.refl _ |refine Kept.set' (by assumption) ?_ ?_ |refine Kept.set (by assumption) ?_ ?_ |omega)) only[go_sem, *] | (apply xs<;>intro _)<;>try omega |refine fun (_ _:List Nat)=>?_ | (first |refine aJ Tryz.func69 rfl ?_ ?_ ?_ ?_ |fail)<;>intros
 obtain⟨L0,hL0,hl0⟩:∃ L0:List Int,L0=List.replicate W.length 0∧L0.length=W.length:=⟨_,rfl,by rw[List.length_replicate]⟩
 rw[←hL0]
 clear hL0 hz
 refine bY (fun t m h' n'=>∃ (i:Nat) (L:List Int),i≤W.length∧t=W.length-i∧L.length=W.length∧L.take i=W.take i∧m.n=33∧m.eS=[]∧m.get 0=pt mb∧m.get 3 = .slice (some ⟨N,0,none⟩) W.length W.length∧m.get 17=I6 W.length∧m.get 18=I6 i∧h'.get N=row (L.map (.int .u64))∧Kept h h'∧bL h' n'∧N+1=n') W.length ?_ ?_
 ·refine⟨0,L0,by omega,by omega,hl0,by simp,?_⟩
  simp(maxSteps:=2000000) (disch:=first |omega | (repeat first |assumption |exact Kept.refl _ |refine Kept.set' (by assumption) ?_ ?_ |refine Kept.set (by assumption) ?_ ?_ |omega)) only[go_sem, *]
  exact⟨hW.kept (Nat.le_refl _),hW.set (Nat.le_succ _) (Nat.lt_succ_self _)⟩
 ·clear hl0 L0
  rintro t m h' n' ih ⟨i,L,hi,rfl,hl,D2,m1,m2,m3,m4,m5,m6,gN,kq,wq,rfl⟩
  have hm:=kq _ _ hm
  have hw:=kq _ _ hw
  by_cases hlt:i<W.length
  ·have e7:(i:Int)<W.length:=by omega
   have hgw:(W.map (Value.int .u64))[i]? = some (U6 W[i]):=by rw[List.getElem?_map,List.getElem?_eq_getElem hlt];rfl
   have Mu:(L.map (Value.int .u64))[i]? = some (U6 (L.getD i 0)):=by have:i<L.length:=by omega
                                                                     rw[List.getElem?_map];simp[List.getD,this]
   have hi1:(i:Int)+1=((i+1:Nat):Int):=by omega
   have Vr:(L.set i W[i]).take (i+1)=W.take (i+1):=by
    rw[List.take_add_one,List.take_add_one,List.take_set_of_le (Nat.le_refl _),D2,List.getElem?_set_self (by omega),List.getElem?_eq_getElem hlt]
   generalize W[i]=x at hgw Vr
   clear D2
   repeat' first |simp(maxSteps:=2000000) (disch:=first |omega | (repeat first |assumption |exact Kept.refl _ |refine Kept.set' (by assumption) ?_ ?_ |refine Kept.set (by assumption) ?_ ?_ |omega)) only[go_sem, *] | (apply xs<;>intro _)<;>try omega |refine fun (_ _:List Nat)=>?_ | (first |refine aJ Tryz.func69 rfl ?_ ?_ ?_ ?_ |fail)<;>intros
   refine ih (W.length-(i+1)) _ _ _ (by omega) ⟨i+1,L.set i x,by omega,rfl,by rw[List.length_set];exact hl,Vr,?_⟩
   clear ih
   simp(maxSteps:=2000000) (disch:=first |omega | (repeat first |assumption |exact Kept.refl _ |refine Kept.set' (by assumption) ?_ ?_ |refine Kept.set (by assumption) ?_ ?_ |omega)) only[go_sem, *]
   exact⟨by rw[List.map_set],Kept.set' hW (Nat.le_refl _) kq,bL.set' (by omega) wq⟩
  ·have e7: ¬ (i:Int)<W.length:=by omega
   obtain rfl:i=W.length:=by omega
   have hLW:L=W:=by rw[List.take_of_length_le (by omega),List.take_of_length_le (Nat.le_refl _)] at D2;exact D2
   subst hLW
   clear ih D2 hl
   repeat' first |simp(maxSteps:=2000000) (disch:=first |omega | (repeat first |assumption |exact Kept.refl _ |refine Kept.set' (by assumption) ?_ ?_ |refine Kept.set (by assumption) ?_ ?_ |omega)) only[go_sem, *] | (apply xs<;>intro _)<;>try omega |refine fun (_ _:List Nat)=>?_ | (first |refine aJ Tryz.func69 rfl ?_ ?_ ?_ ?_ |fail)<;>intros
   exact⟨.inr ⟨N,0,none,_,_,_,rfl,gN,by simp,by rw[List.drop_zero];exact List.take_of_length_le (by simp)⟩,Nat.le_succ _⟩
end Go.Proofs.YtofmbmclopgldaaGreat
