/-
  A part of the proof: contracts of inner functions.
-/
import Derived.Test.YtfhmopghjoeamaaGreatBH
set_option linter.unusedVariables false
set_option linter.unusedSimpArgs false
namespace Go.Proofs.YtfhmopghjoeamaaGreat
open Go.Am
theorem DL {th sl en bu kd dn t0 t1 t2 t3 t4 t5 lo tr ba:Int} {xs:List Int} (h:iw th sl en bu kd dn t0 t1 t2 t3 t4 t5 lo tr ba xs=true):if en=3 then 1≤bu∧bu≤16 else bu=0:=by
 simp only[iw,Bool.and_eq_true,Bool.not_eq_true',Bool.or_eq_false_iff,decide_eq_true_eq,decide_eq_false_iff_not] at h
 obtain⟨⟨⟨⟨⟨⟨⟨⟨⟨⟨⟨⟨⟨⟨a0,a1⟩,a2⟩,a3⟩,a4⟩,a5⟩,a6⟩,a7⟩,a8⟩,a9⟩,OC⟩,a11⟩,a12⟩,a13⟩,a14⟩:=h
 split<;>rename_i c<;>simp_all
structure Pd (sl en:Int) (h1:PT aj) (n1:Nat) (d:Rl→Nat) (C:Rl→Option aj) (lb:Nat) (l:bZ):Prop where
 fz:Fz h1 n1 d C
 mem:kR d C (t_ l) [] 0
 obj:H_ d C lb l (.slice none 0 0) (.slice none 0 0) [] 0 [] 0 (List.replicate l.H.length 0)
 vals:C (73,0)=some (.map (bA .i64 []) 0)
 WH:DJ en d C (l.P.getD 1 0) sl.toNat
set_option maxRecDepth 100000 in
set_option maxHeartbeats 16000000 in
theorem WL (th sl en bu kd dn t0 t1 t2 t3 t4 t5 lo tr ba:Int) (s:Value) (xs:List Int) (h:PT aj) (N:Nat) (hW:bX h N) (hs:aS .u64 h s xs) (hl:xs.length<1000000000000000):
  cT Tryz.prog OB 6 [.agg ⟨[I6 th,I6 sl,U8 en,I6 bu,U8 kd,I6 dn,s,I6 t0,I6 t1,I6 t2,I6 t3,I6 t4,I6 t5,I6 lo,I6 tr,I6 ba]⟩] h N
   fun v h' n'=>(iw th sl en bu kd dn t0 t1 t2 t3 t4 t5 lo tr ba xs=false∧v=oF [.pointer none,I6 2]∧Kept h h'∧bX h' n')∨
    (∃ h1 n1 lb l gb cv sz d C,v=oF [pt (d (70,0)),I6 0]∧Kept h h1∧N≤n1∧AB th sl en bu kd dn t0 t1 t2 t3 t4 t5 lo tr ba xs h1 lb l gb cv∧DA l (aZ kd dn xs) sz∧St h' n' d C∧Pd sl en h1 n1 d C lb l):=by
 refine aB (N:=94) Tryz.func6 rfl rfl fun z hP hO hro hN hQ=>?_
 repeat' first |simp(maxSteps:=2000000) (disch:=first |omega | (repeat first |assumption |exact Kept.refl _ |refine Kept.set' (by assumption) ?_ ?_ |refine Kept.set (by assumption) ?_ ?_ |omega)) only[go_sem, *] | (apply xs<;>intro _)<;>try omega
 generalize Gy:h.set N _=h1
 have e1:h1.get N=row [I6 th,I6 sl,U8 en,I6 bu,U8 kd,I6 dn,s,I6 t0,I6 t1,I6 t2,I6 t3,I6 t4,I6 t5,I6 lo,I6 tr,I6 ba]:=by rw[←Gy];exact bS
 have Kh:bX h1 (N+1):=by rw[←Gy];exact hW.set (by omega) (by omega)
 have k1:Kept h h1:=by rw[←Gy];exact hW.kept (Nat.le_refl _)
 clear Gy
 refine fL ((Gl (O:=OB) rfl rfl rfl rfl OBc th sl en bu kd dn t0 t1 t2 t3 t4 t5 lo tr ba _ xs _ _ Kh (hs.keep k1) hl).wf Kh) (by simp only[*]) (by simp only[*]) (by simp only[go_sem, *]) (by simp only[go_sem, *]) ?_
 rintro v h2 n2 ⟨⟨c1,rfl,k2⟩ | ⟨lb,l,gb,cv,rfl,k2,hlb,hL⟩,hn2,Du⟩
 ·have k02:=k1.trans k2
  repeat' first |simp(maxSteps:=2000000) (disch:=first |omega | (repeat first |assumption |exact Kept.refl _ |refine Kept.set' (by assumption) ?_ ?_ |refine Kept.set (by assumption) ?_ ?_ |omega)) only[go_sem, *] | (apply xs<;>intro _)<;>try omega
  all_goals done
 have e2:=k2 N _ e1
 have k02:=k1.trans k2
 obtain⟨sz,hn⟩:=DB hL
 have afd:@decide (zc l) (Classical.propDecidable _)=true:=@decide_eq_true _ (Classical.propDecidable _) hn.L5
 have hl0:=hL.look
 have S0:=St.all Du
 have F0:=Fz.all Du
 have hrl:=fun h' hk z f d ops r K m n=>@dg _ _ _ _ h' hl0 z f d ops r K m n hk
 have WJ:=fun h' hk z L f d ops r K m n lo rd wr fs=>@j7 _ _ _ _ h' hl0 z L f d ops r K m n lo rd wr fs hk
 have Bl:=fun h' lo hi hk hl=>@qD _ _ _ _ h' _ lo hi hl0 Du hk hl
 have hp9:(l.P.getD 9 0).toNat=sz:=by rw[hn.p9];omega
 have AG:(t_ l).length=sz:=by unfold t_;rw[oJ];exact hp9
 have Te:=hn.Wv
 have OY:=hn.SX
 repeat' first |simp(maxSteps:=2000000) (disch:=first |omega | (repeat first |assumption |exact Kept.refl _ |refine Kept.set' (by assumption) ?_ ?_ |refine Kept.set (by assumption) ?_ ?_ |omega)) only[go_sem, *,Gp] | (apply xs<;>intro _)<;>try omega
 obtain⟨d3,C3,S3,F3,c1,c2,c3,c4,c5,c6⟩:∃ d C,St ((((h2.set n2 (some (.map [] 0))).set (n2+1) (some (.map [] 0))).set (n2+1+1) (row [pt lb,.pointer none,.pointer none,.pointer none,.pointer none,.slice none 0 0,.slice none 0 0,.map (some n2),.map (some (n2+1))])).set (n2+1+1+1) (row ((t_ l).map (.int .u64)))) (n2+1+1+1+1) d C∧
   Fz h2 n2 d C∧d (73,0)=n2∧d (74,0)=n2+1∧d (70,0)=n2+1+1∧C (73,0)=some (.map [] 0)∧C (74,0)=some (.map [] 0)∧C (70,0)=row [pt lb,.pointer none,.pointer none,.pointer none,.pointer none,.slice none 0 0,.slice none 0 0,.map (some n2),.map (some (n2+1))]:=
  ⟨_,_,(((S0.new (73,0) _ (Nat.le_refl _) (Nat.lt_succ_self _)).new (74,0) _ (Nat.le_refl _) (Nat.lt_succ_self _)).new (70,0) _ (Nat.le_refl _) (Nat.lt_succ_self _)).junk (Nat.le_refl _) (Nat.lt_succ_self _),((F0.new (a:=73) (b:=0) (by decide) (Nat.le_refl _) _).new (a:=74) (b:=0) (by decide) (by omega) _).new (a:=70) (b:=0) (by decide) (by omega) _,by simp(disch:=first |decide |assumption |omega) only[rM,rW,rL,au,aq,aJ,aH],by simp(disch:=first |decide |assumption |omega) only[rM,rW,rL,au,aq,aJ,aH],by simp(disch:=first |decide |assumption |omega) only[rM,rW,rL,au,aq,aJ,aH],by simp(disch:=first |decide |assumption |omega) only[rM,rW,rL,au,aq,aJ,aH],by simp(disch:=first |decide |assumption |omega) only[rM,rW,rL,au,aq,aJ,aH],by simp(disch:=first |decide |assumption |omega) only[rM,rW,rL,au,aq,aJ,aH]⟩
 generalize wA:(((h2.set _ _).set _ _).set _ _).set _ _=h3 at S3 ⊢
 have eW:h3.get (n2+1+1+1)=row ((t_ l).map (.int .u64)):=by rw[←wA];exact bS
 have mn:=Gw (W:=t_ l) (cap:=sz) S3 F3 (by omega) eW (by omega) (by omega)
 rw[AG] at mn
 clear wA S0 F0
 refine fL (mn.wf S3.wf) (by simp only[*]) (by simp only[*]) (by simp only[go_sem, *]) (by simp only[go_sem, *]) ?_
 rintro v h4 n4 ⟨⟨d4,C4,rfl,WM,k4,S4,F4,M4,Tg⟩,-,-⟩
 have f70:=Tg 70 0 (by omega)
 have f73:=Tg 73 0 (by omega)
 have f74:=Tg 74 0 (by omega)
 rw[c3,c6] at f70
 rw[c1,c4] at f73
 rw[c2,c5] at f74
 have g70:=S4.at f70.2
 rw[f70.1] at g70
 have K4:=F4.kept S4
 have e4:=K4 _ _ e2
 clear mn eW c1 c2 c3 c4 c5 c6 S3 F3 Tg e1
 repeat' first |simp(maxSteps:=2000000) (disch:=first |omega | (repeat first |assumption |exact Kept.refl _ |refine Kept.set' (by assumption) ?_ ?_ |refine Kept.set (by assumption) ?_ ?_ |omega)) only[go_sem, *] | (apply xs<;>intro _)<;>try omega
 have S5:=S4.set (70,0) (.cells (PT.ofList .leaf 0 [pt lb,pt (d4 rM),.pointer none,.pointer none,.pointer none,.slice none 0 0,.slice none 0 0,.map (some n2),.map (some (n2+1))]) false) f70.2 f70.1
 have F5:=F4.set (a:=70) (by decide) f70.2 (row [pt lb,pt (d4 rM),.pointer none,.pointer none,.pointer none,.slice none 0 0,.slice none 0 0,.map (some n2),.map (some (n2+1))])
 have M5:=M4.of (d':=d4) (C':=upd C4 (70,0) (row [pt lb,pt (d4 rM),.pointer none,.pointer none,.pointer none,.slice none 0 0,.slice none 0 0,.map (some n2),.map (some (n2+1))])) fun a ha=>⟨rfl,by rw[aq (by omega)]⟩
 refine fL ((DH S5 F5 M5 hl0 hn AG).wf S5.wf) (by simp only[*]) (by simp only[*]) (by simp only[go_sem, *]) (by simp only[go_sem, *]) ?_
 rintro v h6 n6 ⟨⟨d6,C6,rfl,S6,F6,WN,p1,p2,p3,Mb⟩,-,-⟩
 have fM:=Mb 0 0 (by omega) (by omega) (by omega)
 have vS:=Mb 70 0 (by omega) (by omega) (by omega)
 have Ki:=Mb 73 0 (by omega) (by omega) (by omega)
 have Kj:=Mb 74 0 (by omega) (by omega) (by omega)
 rw[f70.1,au] at vS
 rw[f73.1,aq (by decide),f73.2] at Ki
 rw[f74.1,aq (by decide),f74.2] at Kj
 have M6:=M5.of (d':=d6) (C':=C6) fun a ha=>Mb a 0 (by omega) (by omega) (by omega)
 have Pe:=S6.at vS.2
 rw[vS.1] at Pe
 have K6:=F6.kept S6
 have e6:=K6 _ _ e2
 clear S4 F4 M4 S5 F5 M5 Mb g70 f70 f73 f74 K4 e4
 repeat' first |simp(maxSteps:=2000000) (disch:=first |omega | (repeat first |assumption |exact Kept.refl _ |refine Kept.set' (by assumption) ?_ ?_ |refine Kept.set (by assumption) ?_ ?_ |omega)) only[go_sem, *] | (apply xs<;>intro _)<;>try omega
 have S7:=S6.set (70,0) (.cells (PT.ofList .leaf 0 [pt lb,pt (d4 rM),pt (d6 (75,0)),.pointer none,.pointer none,.slice none 0 0,.slice none 0 0,.map (some n2),.map (some (n2+1))]) false) vS.2 vS.1
 have F7:=F6.set (a:=70) (by decide) vS.2 (row [pt lb,pt (d4 rM),pt (d6 (75,0)),.pointer none,.pointer none,.slice none 0 0,.slice none 0 0,.map (some n2),.map (some (n2+1))])
 have M7:=M6.of (d':=d6) (C':=upd C6 (70,0) (row [pt lb,pt (d4 rM),pt (d6 (75,0)),.pointer none,.pointer none,.slice none 0 0,.slice none 0 0,.map (some n2),.map (some (n2+1))])) fun a ha=>⟨rfl,by rw[aq (by omega)]⟩
 have tn:=(Gx S7 F7 M7 hl0 hn AG).wf S7.wf
 rw[show d6 rM=d4 rM from fM.1] at tn
 refine fL (tn) (by simp only[*]) (by simp only[*]) (by simp only[go_sem, *]) (by simp only[go_sem, *]) ?_
 rintro v h8 n8 ⟨⟨tb,htb,aff,rfl,S8⟩,hn8,-⟩
 have F8:=F7.new (a:=78) (b:=0) (i:=tb) (by decide) (by omega) (row [pt (d4 rM),pt lb])
 have vT:upd d6 (78,0) tb (70,0)=n2+1+1∧upd (upd C6 (70,0) (row [pt lb,pt (d4 rM),pt (d6 (75,0)),.pointer none,.pointer none,.slice none 0 0,.slice none 0 0,.map (some n2),.map (some (n2+1))])) (78,0) (row [pt (d4 rM),pt lb]) (70,0)=row [pt lb,pt (d4 rM),pt (d6 (75,0)),.pointer none,.pointer none,.slice none 0 0,.slice none 0 0,.map (some n2),.map (some (n2+1))]:=⟨by rw[aq (by decide)];exact vS.1,by rw[aq (by decide),au]⟩
 have Pf:=S8.at vT.2
 rw[vT.1] at Pf
 have K8:=F8.kept S8
 have e8:=K8 _ _ e2
 have M8:=M7.of (d':=upd d6 (78,0) tb) (C':=upd (upd C6 (70,0) (row [pt lb,pt (d4 rM),pt (d6 (75,0)),.pointer none,.pointer none,.slice none 0 0,.slice none 0 0,.map (some n2),.map (some (n2+1))])) (78,0) (row [pt (d4 rM),pt lb])) fun a ha=>⟨aq (by omega),aq (by omega)⟩
 obtain⟨q0,q1,q2,q3,q4,q5,q6,q7,q8,hP⟩:=hn.PL
 have yt:l.P.map (Value.int .i64)=[I6 q0,I6 q1,I6 q2,I6 q3,I6 q4,I6 q5,I6 q6,I6 q7,I6 q8,I6 sz]:=by rw[hP];rfl
 have hP1:l.P.getD 1 0=q1:=by rw[hP];rfl
 clear S6 F6 M6 S7 F7 M7 tn Pe K6 e6
 have Et:=cI hL.ok
 have hbu:=DL hL.ok
 have hEw:=jx (en:=en) Et.2.2.1.1 Et.2.2.1.2 Et.2.2.2.1.1 Et.2.2.2.1.2
 have hlo:=Et.2.2.2.2.1
 have hq1:0≤q1∧q1+b9 en sl bu≤sz:=by
  have hq1:q1=0+sl*1:=by rw[←hP1,hL.P];simp only[placesOf,List.getD_cons_succ,List.getD_cons_zero]
  have hq6:l.P.getD 6 0=0+sl*1+1*b9 en sl bu+1+lo*3+lo*1+6:=by rw[hL.P];simp only[placesOf,List.getD_cons_succ,List.getD_cons_zero]
  have hq9:=hn.L5.p9
  have afh:=hn.p9
  omega
 repeat' first |simp(maxSteps:=2000000) (disch:=first |omega | (repeat first |assumption |exact Kept.refl _ |refine Kept.set' (by assumption) ?_ ?_ |refine Kept.set (by assumption) ?_ ?_ |omega)) only[go_sem, *,gi] | (apply xs<;>intro _)<;>try omega | ((with_reducible refine dA 14 ?_);refine dw 94 14 HR (by first | (simp only[go_sem, *];done) |rfl) (by kernel_rfl) (by kernel_rfl) ?_)
 have S9:=S8.set (70,0) (.cells (PT.ofList .leaf 0 [pt lb,pt (d4 rM),pt (d6 (75,0)),pt tb,.pointer none,.slice none 0 0,.slice none 0 0,.map (some n2),.map (some (n2+1))]) false) vT.2 vT.1
 have F9:=F8.set (a:=70) (by decide) vT.2 (row [pt lb,pt (d4 rM),pt (d6 (75,0)),pt tb,.pointer none,.slice none 0 0,.slice none 0 0,.map (some n2),.map (some (n2+1))])
 have M9:=M8.of (d':=upd d6 (78,0) tb) (C':=upd _ (70,0) (row [pt lb,pt (d4 rM),pt (d6 (75,0)),pt tb,.pointer none,.slice none 0 0,.slice none 0 0,.map (some n2),.map (some (n2+1))])) fun a ha=>⟨rfl,aq (by omega)⟩
 have pn:=(DK S9 F9 (by omega) M9 Et.2.1 Et.2.2.1 hbu hq1.1 (by rw[AG];exact hq1.2) (by omega)).wf S9.wf
 rw[show upd d6 (78,0) tb rM=d4 rM from (aq (by decide)).trans fM.1] at pn
 refine fL (pn) (by simp only[*]) (by simp only[*]) (by simp only[go_sem, *]) (by simp only[go_sem, *]) ?_
 rintro v Pg n10 ⟨⟨d10,C10,rfl,WO,E10,Gz,F10⟩,afj,-⟩
 intro rd wr
 have fr:∀ a,67<a→d10 (a,0)=upd d6 (78,0) tb (a,0)∧C10 (a,0)=upd (upd (upd C6 (70,0) (row [pt lb,pt (d4 rM),pt (d6 (75,0)),.pointer none,.pointer none,.slice none 0 0,.slice none 0 0,.map (some n2),.map (some (n2+1))])) (78,0) (row [pt (d4 rM),pt lb])) (70,0) (row [pt lb,pt (d4 rM),pt (d6 (75,0)),pt tb,.pointer none,.slice none 0 0,.slice none 0 0,.map (some n2),.map (some (n2+1))]) (a,0):=fun a ha=>Gz a 0 (by omega) (by omega) (by omega) (by omega)
 have Kk:=fr 70 (by omega)
 have Ti:=fr 73 (by omega)
 have WQ:=fr 74 (by omega)
 have WR:=fr 75 (by omega)
 have WS:=fr 76 (by omega)
 have WT:=fr 77 (by omega)
 have WU:=fr 78 (by omega)
 rw[aq (by decide),vS.1,au] at Kk
 rw[aq (by decide),Ki.1,aq (by decide),aq (by decide),aq (by decide),Ki.2] at Ti
 rw[aq (by decide),Kj.1,aq (by decide),aq (by decide),aq (by decide),Kj.2] at WQ
 rw[aq (by decide),aq (by decide),aq (by decide),aq (by decide),p1] at WR
 rw[aq (by decide),aq (by decide),aq (by decide),aq (by decide),p2] at WS
 rw[aq (by decide),aq (by decide),aq (by decide),aq (by decide),p3] at WT
 rw[au,aq (by decide),au] at WU
 have xM:=Gz 0 0 (by omega) (by omega) (by omega) (by omega)
 have dM:d10 rM=d4 rM:=xM.1.trans ((aq (by decide)).trans fM.1)
 have M10:=M9.of (d':=d10) (C':=C10) fun a ha=>Gz a 0 (by omega) (by omega) (by omega) (by omega)
 have g10:=WO.at Kk.2
 rw[Kk.1] at g10
 have K10:=F10.kept WO
 have hmt:∀ h',Kept h2 h'→meets ((rB (pt lb)).ids h' []) [n2+1+1]=false:=fun h' hk=>yg hl0 Du hk (by simp only[List.all_cons,List.all_nil,Bool.and_true];exact decide_eq_true (by omega))
 have hNn:N<n2:=Du.lt e2
 clear Gz fr S9 F9 M9 S8 F8 M8 pn e8 K8
 repeat' first |simp(maxSteps:=2000000) (disch:=first |omega | (repeat first |assumption |exact Kept.refl _ |refine Kept.set' (by assumption) ?_ ?_ |refine Kept.set (by assumption) ?_ ?_ |omega)) only[go_sem, *,gi] | (apply xs<;>intro _)<;>try omega | ((with_reducible refine dA 14 ?_);refine dw 94 14 HR (by first | (simp only[go_sem, *];done) |rfl) (by kernel_rfl) (by kernel_rfl) ?_)
 refine .inr ⟨h2,n2,lb,l,gb,cv,sz,d10,_,by rw[Kk.1],k02,by omega,hL,hn,WO.set (70,0) _ Kk.2 Kk.1,F10.set (a:=70) (by decide) Kk.2 _,M10.of fun a ha=>⟨rfl,aq (by omega)⟩,⟨?_,?_,?_,?_,?_,?_,?_⟩,?_,?_⟩
 ·rw[au,dM,WR.1,WU.1,Ti.1,WQ.1]
 ·rw[aq (by decide),WQ.2];rfl
 ·rw[aq (by decide),WR.2,dM,WS.1,WT.1,List.length_replicate,show d6 rM=d4 rM from fM.1]
 ·rw[aq (by decide),WS.2]
 ·rw[aq (by decide),WT.2]
 ·rw[aq (by decide),WU.2,dM]
 ·exact⟨_,by rw[aq (by decide),Ti.2]⟩
 ·rw[aq (by decide),Ti.2];rfl
 ·rw[hP1];exact E10.put (by omega)
end Go.Proofs.YtfhmopghjoeamaaGreat
