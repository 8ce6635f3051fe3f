/-
  A part of the proof: contracts of inner functions.
-/
import Derived.Test.YtfhmopghjoeamaaGreatBH
set_option linter.unusedVariables false
set_option linter.unusedSimpArgs false
namespace Go.Proofs.YtfhmopghjoeamaaGreat
open Go.Am
theorem A2 {th sl en bu kd dn t0 t1 t2 t3 t4 t5 lo tr ba:Int} {xs:List Int} (h:gI th sl en bu kd dn t0 t1 t2 t3 t4 t5 lo tr ba xs=true):if en=3 then 1≤bu∧bu≤16 else bu=0:=by
 simp only[gI,Bool.and_eq_true,Bool.not_eq_true',Bool.or_eq_false_iff,decide_eq_true_eq,decide_eq_false_iff_not] at h
 obtain⟨⟨⟨⟨⟨⟨⟨⟨⟨⟨⟨⟨⟨⟨a0,a1⟩,a2⟩,a3⟩,a4⟩,a5⟩,a6⟩,a7⟩,a8⟩,a9⟩,J2⟩,UE⟩,UF⟩,Yo⟩,Yp⟩:=h
 split<;>rename_i c<;>simp_all
structure Rg (sl en:Int) (h1:PT ak) (n1:Nat) (d:Rl→Nat) (C:Rl→Option ak) (lb:Nat) (l:fG):Prop where
 fz:Fz h1 n1 d C
 mem:rj d C (mV l) [] 0
 obj:YV d C lb l (.slice none 0 0) (.slice none 0 0) [] 0 [] 0 (List.replicate l.H.length 0)
 vals:C (73,0)=some (.map (Ay .i64 []) 0)
 Rb:AZ en d C (l.P.getD 1 0) sl.toNat
set_option maxRecDepth 100000 in
set_option maxHeartbeats 16000000 in
theorem Rh (th sl en bu kd dn t0 t1 t2 t3 t4 t5 lo tr ba:Int) (s:Value) (xs:List Int) (h:PT ak) (N:Nat) (hW:cW h N) (hs:aZ .u64 h s xs) (hl:xs.length<1000000000000000):
  gN Tryz.prog OB 6 [.agg ⟨[I6 th,I6 sl,U8 en,I6 bu,U8 kd,I6 dn,s,I6 t0,I6 t1,I6 t2,I6 t3,I6 t4,I6 t5,I6 lo,I6 tr,I6 ba]⟩] h N
   fun v h' n'=>(gI th sl en bu kd dn t0 t1 t2 t3 t4 t5 lo tr ba xs=false∧v=pZ [.pointer none,I6 2]∧Kept h h'∧cW h' n')∨
    (∃ h1 n1 lb l gb cv sz d C,v=pZ [pt (d (70,0)),I6 0]∧Kept h h1∧N≤n1∧xY th sl en bu kd dn t0 t1 t2 t3 t4 t5 lo tr ba xs h1 lb l gb cv∧Da l (aV kd dn xs) sz∧St h' n' d C∧Rg sl en h1 n1 d C lb l):=by
 refine aD (N:=94) Tryz.func6 rfl rfl fun z hP hO hro hN hQ=>?_
 repeat' first |simp(maxSteps:=2000000) (disch:=first |omega | (repeat first |assumption |exact Kept.refl _ |refine Kept.set' (by assumption) ?_ ?_ |refine Kept.set (by assumption) ?_ ?_ |omega)) only[go_sem, *] | (apply xs<;>intro _)<;>try omega
 generalize Nz:h.set N _=h1
 have e1:h1.get N=row [I6 th,I6 sl,U8 en,I6 bu,U8 kd,I6 dn,s,I6 t0,I6 t1,I6 t2,I6 t3,I6 t4,I6 t5,I6 lo,I6 tr,I6 ba]:=by rw[←Nz];exact eG
 have Ny:cW h1 (N+1):=by rw[←Nz];exact hW.set (by omega) (by omega)
 have k1:Kept h h1:=by rw[←Nz];exact hW.kept (Nat.le_refl _)
 clear Nz
 refine xR ((C7 (O:=OB) rfl rfl rfl rfl YY th sl en bu kd dn t0 t1 t2 t3 t4 t5 lo tr ba _ xs _ _ Ny (hs.keep k1) hl).wf Ny) (by simp only[*]) (by simp only[*]) (by simp only[go_sem, *]) (by simp only[go_sem, *]) ?_
 rintro v h2 n2 ⟨⟨c1,rfl,k2⟩ | ⟨lb,l,gb,cv,rfl,k2,hlb,hL⟩,hn2,Bv⟩
 ·have Vd:=k1.trans k2
  repeat' first |simp(maxSteps:=2000000) (disch:=first |omega | (repeat first |assumption |exact Kept.refl _ |refine Kept.set' (by assumption) ?_ ?_ |refine Kept.set (by assumption) ?_ ?_ |omega)) only[go_sem, *] | (apply xs<;>intro _)<;>try omega
  all_goals done
 have e2:=k2 N _ e1
 have Vd:=k1.trans k2
 obtain⟨sz,hn⟩:=AO hL
 have YZ:@decide (wz l) (Classical.propDecidable _)=true:=@decide_eq_true _ (Classical.propDecidable _) hn.QU
 have hl0:=hL.look
 have S0:=St.all Bv
 have F0:=Fz.all Bv
 have hrl:=fun h' hk z f d ops r K m n=>@eo _ _ _ _ h' hl0 z f d ops r K m n hk
 have YX:=fun h' hk z L f d ops r K m n lo rd wr fs=>@oI _ _ _ _ h' hl0 z L f d ops r K m n lo rd wr fs hk
 have yD:=fun h' lo hi hk hl=>@oP _ _ _ _ h' _ lo hi hl0 Bv hk hl
 have Y0:(l.P.getD 9 0).toNat=sz:=by rw[hn.p9];omega
 have wv:(mV l).length=sz:=by unfold mV;rw[mN];exact Y0
 have Q8:=hn.Np
 have HG:=hn.QV
 repeat' first |simp(maxSteps:=2000000) (disch:=first |omega | (repeat first |assumption |exact Kept.refl _ |refine Kept.set' (by assumption) ?_ ?_ |refine Kept.set (by assumption) ?_ ?_ |omega)) only[go_sem, *,C_] | (apply xs<;>intro _)<;>try omega
 obtain⟨d3,C3,S3,F3,c1,c2,c3,c4,c5,c6⟩:∃ d C,St ((((h2.set n2 (some (.map [] 0))).set (n2+1) (some (.map [] 0))).set (n2+1+1) (row [pt lb,.pointer none,.pointer none,.pointer none,.pointer none,.slice none 0 0,.slice none 0 0,.map (some n2),.map (some (n2+1))])).set (n2+1+1+1) (row ((mV l).map (.int .u64)))) (n2+1+1+1+1) d C∧
   Fz h2 n2 d C∧d (73,0)=n2∧d (74,0)=n2+1∧d (70,0)=n2+1+1∧C (73,0)=some (.map [] 0)∧C (74,0)=some (.map [] 0)∧C (70,0)=row [pt lb,.pointer none,.pointer none,.pointer none,.pointer none,.slice none 0 0,.slice none 0 0,.map (some n2),.map (some (n2+1))]:=
  ⟨_,_,(((S0.new (73,0) _ (Nat.le_refl _) (Nat.lt_succ_self _)).new (74,0) _ (Nat.le_refl _) (Nat.lt_succ_self _)).new (70,0) _ (Nat.le_refl _) (Nat.lt_succ_self _)).junk (Nat.le_refl _) (Nat.lt_succ_self _),((F0.new (a:=73) (b:=0) (by decide) (Nat.le_refl _) _).new (a:=74) (b:=0) (by decide) (by omega) _).new (a:=70) (b:=0) (by decide) (by omega) _,by simp(disch:=first |decide |assumption |omega) only[rM,rW,rL,aA,aq,aI,aE],by simp(disch:=first |decide |assumption |omega) only[rM,rW,rL,aA,aq,aI,aE],by simp(disch:=first |decide |assumption |omega) only[rM,rW,rL,aA,aq,aI,aE],by simp(disch:=first |decide |assumption |omega) only[rM,rW,rL,aA,aq,aI,aE],by simp(disch:=first |decide |assumption |omega) only[rM,rW,rL,aA,aq,aI,aE],by simp(disch:=first |decide |assumption |omega) only[rM,rW,rL,aA,aq,aI,aE]⟩
 generalize Ef:(((h2.set _ _).set _ _).set _ _).set _ _=h3 at S3 ⊢
 have eW:h3.get (n2+1+1+1)=row ((mV l).map (.int .u64)):=by rw[←Ef];exact eG
 have mn:=Di (W:=mV l) (cap:=sz) S3 F3 (by omega) eW (by omega) (by omega)
 rw[wv] at mn
 clear Ef S0 F0
 refine xR (mn.wf S3.wf) (by simp only[*]) (by simp only[*]) (by simp only[go_sem, *]) (by simp only[go_sem, *]) ?_
 rintro v h4 n4 ⟨⟨d4,C4,rfl,Z9,k4,S4,F4,M4,NA⟩,-,-⟩
 have f70:=NA 70 0 (by omega)
 have f73:=NA 73 0 (by omega)
 have f74:=NA 74 0 (by omega)
 rw[c3,c6] at f70
 rw[c1,c4] at f73
 rw[c2,c5] at f74
 have Ve:=S4.at f70.2
 rw[f70.1] at Ve
 have K4:=F4.kept S4
 have e4:=K4 _ _ e2
 clear mn eW c1 c2 c3 c4 c5 c6 S3 F3 NA e1
 repeat' first |simp(maxSteps:=2000000) (disch:=first |omega | (repeat first |assumption |exact Kept.refl _ |refine Kept.set' (by assumption) ?_ ?_ |refine Kept.set (by assumption) ?_ ?_ |omega)) only[go_sem, *] | (apply xs<;>intro _)<;>try omega
 have S5:=S4.set (70,0) (.cells (PT.ofList .leaf 0 [pt lb,pt (d4 rM),.pointer none,.pointer none,.pointer none,.slice none 0 0,.slice none 0 0,.map (some n2),.map (some (n2+1))]) false) f70.2 f70.1
 have F5:=F4.set (a:=70) (by decide) f70.2 (row [pt lb,pt (d4 rM),.pointer none,.pointer none,.pointer none,.slice none 0 0,.slice none 0 0,.map (some n2),.map (some (n2+1))])
 have M5:=M4.of (d':=d4) (C':=upd C4 (70,0) (row [pt lb,pt (d4 rM),.pointer none,.pointer none,.pointer none,.slice none 0 0,.slice none 0 0,.map (some n2),.map (some (n2+1))])) fun a ha=>⟨rfl,by rw[aq (by omega)]⟩
 refine xR ((AX S5 F5 M5 hl0 hn wv).wf S5.wf) (by simp only[*]) (by simp only[*]) (by simp only[go_sem, *]) (by simp only[go_sem, *]) ?_
 rintro v h6 n6 ⟨⟨d6,C6,rfl,S6,F6,Z_,p1,p2,p3,HL⟩,-,-⟩
 have fM:=HL 0 0 (by omega) (by omega) (by omega)
 have tQ:=HL 70 0 (by omega) (by omega) (by omega)
 have Gc:=HL 73 0 (by omega) (by omega) (by omega)
 have Gd:=HL 74 0 (by omega) (by omega) (by omega)
 rw[f70.1,aA] at tQ
 rw[f73.1,aq (by decide),f73.2] at Gc
 rw[f74.1,aq (by decide),f74.2] at Gd
 have M6:=M5.of (d':=d6) (C':=C6) fun a ha=>HL a 0 (by omega) (by omega) (by omega)
 have KB:=S6.at tQ.2
 rw[tQ.1] at KB
 have K6:=F6.kept S6
 have e6:=K6 _ _ e2
 clear S4 F4 M4 S5 F5 M5 HL Ve f70 f73 f74 K4 e4
 repeat' first |simp(maxSteps:=2000000) (disch:=first |omega | (repeat first |assumption |exact Kept.refl _ |refine Kept.set' (by assumption) ?_ ?_ |refine Kept.set (by assumption) ?_ ?_ |omega)) only[go_sem, *] | (apply xs<;>intro _)<;>try omega
 have S7:=S6.set (70,0) (.cells (PT.ofList .leaf 0 [pt lb,pt (d4 rM),pt (d6 (75,0)),.pointer none,.pointer none,.slice none 0 0,.slice none 0 0,.map (some n2),.map (some (n2+1))]) false) tQ.2 tQ.1
 have F7:=F6.set (a:=70) (by decide) tQ.2 (row [pt lb,pt (d4 rM),pt (d6 (75,0)),.pointer none,.pointer none,.slice none 0 0,.slice none 0 0,.map (some n2),.map (some (n2+1))])
 have M7:=M6.of (d':=d6) (C':=upd C6 (70,0) (row [pt lb,pt (d4 rM),pt (d6 (75,0)),.pointer none,.pointer none,.slice none 0 0,.slice none 0 0,.map (some n2),.map (some (n2+1))])) fun a ha=>⟨rfl,by rw[aq (by omega)]⟩
 have tn:=(Dk S7 F7 M7 hl0 hn wv).wf S7.wf
 rw[show d6 rM=d4 rM from fM.1] at tn
 refine xR (tn) (by simp only[*]) (by simp only[*]) (by simp only[go_sem, *]) (by simp only[go_sem, *]) ?_
 rintro v h8 n8 ⟨⟨tb,htb,Y1,rfl,S8⟩,eC,-⟩
 have F8:=F7.new (a:=78) (b:=0) (i:=tb) (by decide) (by omega) (row [pt (d4 rM),pt lb])
 have tR:upd d6 (78,0) tb (70,0)=n2+1+1∧upd (upd C6 (70,0) (row [pt lb,pt (d4 rM),pt (d6 (75,0)),.pointer none,.pointer none,.slice none 0 0,.slice none 0 0,.map (some n2),.map (some (n2+1))])) (78,0) (row [pt (d4 rM),pt lb]) (70,0)=row [pt lb,pt (d4 rM),pt (d6 (75,0)),.pointer none,.pointer none,.slice none 0 0,.slice none 0 0,.map (some n2),.map (some (n2+1))]:=⟨by rw[aq (by decide)];exact tQ.1,by rw[aq (by decide),aA]⟩
 have KC:=S8.at tR.2
 rw[tR.1] at KC
 have K8:=F8.kept S8
 have e8:=K8 _ _ e2
 have M8:=M7.of (d':=upd d6 (78,0) tb) (C':=upd (upd C6 (70,0) (row [pt lb,pt (d4 rM),pt (d6 (75,0)),.pointer none,.pointer none,.slice none 0 0,.slice none 0 0,.map (some n2),.map (some (n2+1))])) (78,0) (row [pt (d4 rM),pt lb])) fun a ha=>⟨aq (by omega),aq (by omega)⟩
 obtain⟨q0,q1,q2,q3,q4,q5,q6,q7,q8,hP⟩:=hn.PL
 have vB:l.P.map (Value.int .i64)=[I6 q0,I6 q1,I6 q2,I6 q3,I6 q4,I6 q5,I6 q6,I6 q7,I6 q8,I6 sz]:=by rw[hP];rfl
 have Vf:l.P.getD 1 0=q1:=by rw[hP];rfl
 clear S6 F6 M6 S7 F7 M7 tn KB K6 e6
 have Bu:=cj hL.ok
 have Y2:=A2 hL.ok
 have hEw:=iQ (en:=en) Bu.2.2.1.1 Bu.2.2.1.2 Bu.2.2.2.1.1 Bu.2.2.2.1.2
 have hlo:=Bu.2.2.2.2.1
 have hq1:0≤q1∧q1+bR en sl bu≤sz:=by
  have hq1:q1=0+sl*1:=by rw[←Vf,hL.P];simp only[placesOf,List.getD_cons_succ,List.getD_cons_zero]
  have HM:l.P.getD 6 0=0+sl*1+1*bR en sl bu+1+lo*3+lo*1+6:=by rw[hL.P];simp only[placesOf,List.getD_cons_succ,List.getD_cons_zero]
  have hq9:=hn.QU.p9
  have Y3:=hn.p9
  omega
 repeat' first |simp(maxSteps:=2000000) (disch:=first |omega | (repeat first |assumption |exact Kept.refl _ |refine Kept.set' (by assumption) ?_ ?_ |refine Kept.set (by assumption) ?_ ?_ |omega)) only[go_sem, *,fI] | (apply xs<;>intro _)<;>try omega | ((with_reducible refine Hx 14 ?_);refine dw 94 14 Ed (by first | (simp only[go_sem, *];done) |rfl) (by kernel_rfl) (by kernel_rfl) ?_)
 have S9:=S8.set (70,0) (.cells (PT.ofList .leaf 0 [pt lb,pt (d4 rM),pt (d6 (75,0)),pt tb,.pointer none,.slice none 0 0,.slice none 0 0,.map (some n2),.map (some (n2+1))]) false) tR.2 tR.1
 have F9:=F8.set (a:=70) (by decide) tR.2 (row [pt lb,pt (d4 rM),pt (d6 (75,0)),pt tb,.pointer none,.slice none 0 0,.slice none 0 0,.map (some n2),.map (some (n2+1))])
 have M9:=M8.of (d':=upd d6 (78,0) tb) (C':=upd _ (70,0) (row [pt lb,pt (d4 rM),pt (d6 (75,0)),pt tb,.pointer none,.slice none 0 0,.slice none 0 0,.map (some n2),.map (some (n2+1))])) fun a ha=>⟨rfl,aq (by omega)⟩
 have pn:=(A1 S9 F9 (by omega) M9 Bu.2.1 Bu.2.2.1 Y2 hq1.1 (by rw[wv];exact hq1.2) (by omega)).wf S9.wf
 rw[show upd d6 (78,0) tb rM=d4 rM from (aq (by decide)).trans fM.1] at pn
 refine xR (pn) (by simp only[*]) (by simp only[*]) (by simp only[go_sem, *]) (by simp only[go_sem, *]) ?_
 rintro v h10 n10 ⟨⟨d10,Vg,rfl,Ri,Y4,Dl,Vh⟩,Y5,-⟩
 intro rd wr
 have fr:∀ a,67<a→d10 (a,0)=upd d6 (78,0) tb (a,0)∧Vg (a,0)=upd (upd (upd C6 (70,0) (row [pt lb,pt (d4 rM),pt (d6 (75,0)),.pointer none,.pointer none,.slice none 0 0,.slice none 0 0,.map (some n2),.map (some (n2+1))])) (78,0) (row [pt (d4 rM),pt lb])) (70,0) (row [pt lb,pt (d4 rM),pt (d6 (75,0)),pt tb,.pointer none,.slice none 0 0,.slice none 0 0,.map (some n2),.map (some (n2+1))]) (a,0):=fun a ha=>Dl a 0 (by omega) (by omega) (by omega) (by omega)
 have Ge:=fr 70 (by omega)
 have NB:=fr 73 (by omega)
 have Rj:=fr 74 (by omega)
 have Rk:=fr 75 (by omega)
 have Rm:=fr 76 (by omega)
 have Rn:=fr 77 (by omega)
 have Ro:=fr 78 (by omega)
 rw[aq (by decide),tQ.1,aA] at Ge
 rw[aq (by decide),Gc.1,aq (by decide),aq (by decide),aq (by decide),Gc.2] at NB
 rw[aq (by decide),Gd.1,aq (by decide),aq (by decide),aq (by decide),Gd.2] at Rj
 rw[aq (by decide),aq (by decide),aq (by decide),aq (by decide),p1] at Rk
 rw[aq (by decide),aq (by decide),aq (by decide),aq (by decide),p2] at Rm
 rw[aq (by decide),aq (by decide),aq (by decide),aq (by decide),p3] at Rn
 rw[aA,aq (by decide),aA] at Ro
 have xM:=Dl 0 0 (by omega) (by omega) (by omega) (by omega)
 have dM:d10 rM=d4 rM:=xM.1.trans ((aq (by decide)).trans fM.1)
 have Y6:=M9.of (d':=d10) (C':=Vg) fun a ha=>Dl a 0 (by omega) (by omega) (by omega) (by omega)
 have Y7:=Ri.at Ge.2
 rw[Ge.1] at Y7
 have K10:=Vh.kept Ri
 have hmt:∀ h',Kept h2 h'→meets ((tC (pt lb)).ids h' []) [n2+1+1]=false:=fun h' hk=>vr hl0 Bv hk (by simp only[List.all_cons,List.all_nil,Bool.and_true];exact decide_eq_true (by omega))
 have hNn:N<n2:=Bv.lt e2
 clear Dl fr S9 F9 M9 S8 F8 M8 pn e8 K8
 repeat' first |simp(maxSteps:=2000000) (disch:=first |omega | (repeat first |assumption |exact Kept.refl _ |refine Kept.set' (by assumption) ?_ ?_ |refine Kept.set (by assumption) ?_ ?_ |omega)) only[go_sem, *,fI] | (apply xs<;>intro _)<;>try omega | ((with_reducible refine Hx 14 ?_);refine dw 94 14 Ed (by first | (simp only[go_sem, *];done) |rfl) (by kernel_rfl) (by kernel_rfl) ?_)
 refine .inr ⟨h2,n2,lb,l,gb,cv,sz,d10,_,by rw[Ge.1],Vd,by omega,hL,hn,Ri.set (70,0) _ Ge.2 Ge.1,Vh.set (a:=70) (by decide) Ge.2 _,Y6.of fun a ha=>⟨rfl,aq (by omega)⟩,⟨?_,?_,?_,?_,?_,?_,?_⟩,?_,?_⟩
 ·rw[aA,dM,Rk.1,Ro.1,NB.1,Rj.1]
 ·rw[aq (by decide),Rj.2];rfl
 ·rw[aq (by decide),Rk.2,dM,Rm.1,Rn.1,List.length_replicate,show d6 rM=d4 rM from fM.1]
 ·rw[aq (by decide),Rm.2]
 ·rw[aq (by decide),Rn.2]
 ·rw[aq (by decide),Ro.2,dM]
 ·exact⟨_,by rw[aq (by decide),NB.2]⟩
 ·rw[aq (by decide),NB.2];rfl
 ·rw[Vf];exact Y4.put (by omega)
end Go.Proofs.YtfhmopghjoeamaaGreat
