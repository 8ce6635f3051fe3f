/-
  A part of the proof: contracts of inner functions.
-/
import Derived.Test.YtofmbmclopgldaaGreatBH
set_option linter.unusedVariables false
set_option linter.unusedSimpArgs false
namespace Go.Proofs.YtofmbmclopgldaaGreat
open Go.Am
theorem HZ {th sl en bu kd dn t0 t1 t2 t3 t4 t5 lo tr ba:Int} {xs:List Int} (h:gB th sl en bu kd dn t0 t1 t2 t3 t4 t5 lo tr ba xs=true):if en=3 then 1≤bu∧bu≤16 else bu=0:=by
 simp only[gB,Bool.and_eq_true,Bool.not_eq_true',Bool.or_eq_false_iff,decide_eq_true_eq,decide_eq_false_iff_not] at h
 obtain⟨⟨⟨⟨⟨⟨⟨⟨⟨⟨⟨⟨⟨⟨a0,a1⟩,a2⟩,a3⟩,a4⟩,a5⟩,a6⟩,a7⟩,a8⟩,a9⟩,Pc⟩,RB⟩,ZR⟩,a13⟩,a14⟩:=h
 split<;>rename_i c<;>simp_all
structure U1 (sl en:Int) (h1:PT ak) (n1:Nat) (d:Rl→Nat) (C:Rl→Option ak) (lb:Nat) (l:cK):Prop where
 fz:Fz h1 n1 d C
 mem:mB d C (jH l) [] 0
 obj:MO d C lb l (.slice none 0 0) (.slice none 0 0) [] 0 [] 0 (List.replicate l.H.length 0)
 vals:C (73,0)=some (.map (bP .i64 []) 0)
 eng:Ea en d C (l.P.getD 1 0) sl.toNat
set_option maxRecDepth 100000 in
set_option maxHeartbeats 16000000 in
theorem acT (th sl en bu kd dn t0 t1 t2 t3 t4 t5 lo tr ba:Int) (s:Value) (xs:List Int) (h:PT ak) (N:Nat) (hW:bL h N) (hs:aW .u64 h s xs) (hl:xs.length<1000000000000000):
  cW Tryz.prog OB 9 [.agg ⟨[I6 th,I6 sl,U8 en,I6 bu,U8 kd,I6 dn,s,I6 t0,I6 t1,I6 t2,I6 t3,I6 t4,I6 t5,I6 lo,I6 tr,I6 ba]⟩] h N
   fun v h' n'=>(gB th sl en bu kd dn t0 t1 t2 t3 t4 t5 lo tr ba xs=false∧v=nD [.pointer none,I6 2]∧Kept h h'∧bL h' n')∨
    (∃ h1 n1 lb l gb cv sz d C,v=nD [pt (d (70,0)),I6 0]∧Kept h h1∧N≤n1∧DZ th sl en bu kd dn t0 t1 t2 t3 t4 t5 lo tr ba xs h1 lb l gb cv∧wW l (a_ kd dn xs) sz∧St h' n' d C∧U1 sl en h1 n1 d C lb l):=by
 refine ay (N:=94) Tryz.func9 rfl rfl fun z hP hO hro hN hQ=>?_
 repeat' first |simp(maxSteps:=2000000) (disch:=first |omega | (repeat first |assumption |exact Kept.refl _ |refine Kept.set' (by assumption) ?_ ?_ |refine Kept.set (by assumption) ?_ ?_ |omega)) only[go_sem, *] | (apply xs<;>intro _)<;>try omega
 generalize By:h.set N _=h1
 have e1:h1.get N=row [I6 th,I6 sl,U8 en,I6 bu,U8 kd,I6 dn,s,I6 t0,I6 t1,I6 t2,I6 t3,I6 t4,I6 t5,I6 lo,I6 tr,I6 ba]:=by rw[←By];exact bC
 have PI:bL h1 (N+1):=by rw[←By];exact hW.set (by omega) (by omega)
 have k1:Kept h h1:=by rw[←By];exact hW.kept (Nat.le_refl _)
 clear By
 refine iH ((KL (O:=OB) rfl rfl rfl rfl OBc th sl en bu kd dn t0 t1 t2 t3 t4 t5 lo tr ba _ xs _ _ PI (hs.keep k1) hl).wf PI) (by simp only[*]) (by simp only[*]) (by simp only[go_sem, *]) (by simp only[go_sem, *]) ?_
 rintro v h2 n2 ⟨⟨c1,rfl,k2⟩ | ⟨lb,l,gb,cv,rfl,k2,hlb,hL⟩,hn2,Ht⟩
 ·have k02:=k1.trans k2
  repeat' first |simp(maxSteps:=2000000) (disch:=first |omega | (repeat first |assumption |exact Kept.refl _ |refine Kept.set' (by assumption) ?_ ?_ |refine Kept.set (by assumption) ?_ ?_ |omega)) only[go_sem, *] | (apply xs<;>intro _)<;>try omega
  all_goals done
 have e2:=k2 N _ e1
 have k02:=k1.trans k2
 obtain⟨sz,hn⟩:=HF hL
 have acU:@decide (ze l) (Classical.propDecidable _)=true:=@decide_eq_true _ (Classical.propDecidable _) hn.KR
 have hl0:=hL.look
 have S0:=St.all Ht
 have F0:=Fz.all Ht
 have hrl:=fun h' hk z f d ops r K m n=>@cE _ _ _ _ h' hl0 z f d ops r K m n hk
 have hrx:=fun h' hk z L f d ops r K m n lo rd wr fs=>@lV _ _ _ _ h' hl0 z L f d ops r K m n lo rd wr fs hk
 have EF:=fun h' lo hi hk hl=>@sY _ _ _ _ h' _ lo hi hl0 Ht hk hl
 have hp9:(l.P.getD 9 0).toNat=sz:=by rw[hn.p9];omega
 have vk:(jH l).length=sz:=by unfold jH;rw[me];exact hp9
 have hz1:=hn.sz1
 have RR:=hn.RE
 repeat' first |simp(maxSteps:=2000000) (disch:=first |omega | (repeat first |assumption |exact Kept.refl _ |refine Kept.set' (by assumption) ?_ ?_ |refine Kept.set (by assumption) ?_ ?_ |omega)) only[go_sem, *,HE] | (apply xs<;>intro _)<;>try omega
 obtain⟨d3,C3,S3,F3,c1,c2,c3,c4,c5,c6⟩:∃ d C,St ((((h2.set n2 (some (.map [] 0))).set (n2+1) (some (.map [] 0))).set (n2+1+1) (row [pt lb,.pointer none,.pointer none,.pointer none,.pointer none,.slice none 0 0,.slice none 0 0,.map (some n2),.map (some (n2+1))])).set (n2+1+1+1) (row ((jH l).map (.int .u64)))) (n2+1+1+1+1) d C∧
   Fz h2 n2 d C∧d (73,0)=n2∧d (74,0)=n2+1∧d (70,0)=n2+1+1∧C (73,0)=some (.map [] 0)∧C (74,0)=some (.map [] 0)∧C (70,0)=row [pt lb,.pointer none,.pointer none,.pointer none,.pointer none,.slice none 0 0,.slice none 0 0,.map (some n2),.map (some (n2+1))]:=
  ⟨_,_,(((S0.new (73,0) _ (Nat.le_refl _) (Nat.lt_succ_self _)).new (74,0) _ (Nat.le_refl _) (Nat.lt_succ_self _)).new (70,0) _ (Nat.le_refl _) (Nat.lt_succ_self _)).junk (Nat.le_refl _) (Nat.lt_succ_self _),((F0.new (a:=73) (b:=0) (by decide) (Nat.le_refl _) _).new (a:=74) (b:=0) (by decide) (by omega) _).new (a:=70) (b:=0) (by decide) (by omega) _,by simp(disch:=first |decide |assumption |omega) only[rM,rW,rL,au,aq,aT,aR],by simp(disch:=first |decide |assumption |omega) only[rM,rW,rL,au,aq,aT,aR],by simp(disch:=first |decide |assumption |omega) only[rM,rW,rL,au,aq,aT,aR],by simp(disch:=first |decide |assumption |omega) only[rM,rW,rL,au,aq,aT,aR],by simp(disch:=first |decide |assumption |omega) only[rM,rW,rL,au,aq,aT,aR],by simp(disch:=first |decide |assumption |omega) only[rM,rW,rL,au,aq,aT,aR]⟩
 generalize zL:(((h2.set _ _).set _ _).set _ _).set _ _=h3 at S3 ⊢
 have eW:h3.get (n2+1+1+1)=row ((jH l).map (.int .u64)):=by rw[←zL];exact bC
 have mn:=K7 (W:=jH l) (cap:=sz) S3 F3 (by omega) eW (by omega) (by omega)
 rw[vk] at mn
 clear zL S0 F0
 refine iH (mn.wf S3.wf) (by simp only[*]) (by simp only[*]) (by simp only[go_sem, *]) (by simp only[go_sem, *]) ?_
 rintro v h4 n4 ⟨⟨d4,C4,rfl,hn4,k4,S4,F4,M4,Z9⟩,-,-⟩
 have f70:=Z9 70 0 (by omega)
 have f73:=Z9 73 0 (by omega)
 have f74:=Z9 74 0 (by omega)
 rw[c3,c6] at f70
 rw[c1,c4] at f73
 rw[c2,c5] at f74
 have g70:=S4.at f70.2
 rw[f70.1] at g70
 have K4:=F4.kept S4
 have e4:=K4 _ _ e2
 clear mn eW c1 c2 c3 c4 c5 c6 S3 F3 Z9 e1
 repeat' first |simp(maxSteps:=2000000) (disch:=first |omega | (repeat first |assumption |exact Kept.refl _ |refine Kept.set' (by assumption) ?_ ?_ |refine Kept.set (by assumption) ?_ ?_ |omega)) only[go_sem, *] | (apply xs<;>intro _)<;>try omega
 have S5:=S4.set (70,0) (.cells (PT.ofList .leaf 0 [pt lb,pt (d4 rM),.pointer none,.pointer none,.pointer none,.slice none 0 0,.slice none 0 0,.map (some n2),.map (some (n2+1))]) false) f70.2 f70.1
 have F5:=F4.set (a:=70) (by decide) f70.2 (row [pt lb,pt (d4 rM),.pointer none,.pointer none,.pointer none,.slice none 0 0,.slice none 0 0,.map (some n2),.map (some (n2+1))])
 have M5:=M4.of (d':=d4) (C':=upd C4 (70,0) (row [pt lb,pt (d4 rM),.pointer none,.pointer none,.pointer none,.slice none 0 0,.slice none 0 0,.map (some n2),.map (some (n2+1))])) fun a ha=>⟨rfl,by rw[aq (by omega)]⟩
 refine iH ((HV S5 F5 M5 hl0 hn vk).wf S5.wf) (by simp only[*]) (by simp only[*]) (by simp only[go_sem, *]) (by simp only[go_sem, *]) ?_
 rintro v h6 n6 ⟨⟨d6,C6,rfl,S6,F6,hn6,p1,p2,p3,RS⟩,-,-⟩
 have fM:=RS 0 0 (by omega) (by omega) (by omega)
 have zo:=RS 70 0 (by omega) (by omega) (by omega)
 have PO:=RS 73 0 (by omega) (by omega) (by omega)
 have PR:=RS 74 0 (by omega) (by omega) (by omega)
 rw[f70.1,au] at zo
 rw[f73.1,aq (by decide),f73.2] at PO
 rw[f74.1,aq (by decide),f74.2] at PR
 have M6:=M5.of (d':=d6) (C':=C6) fun a ha=>RS a 0 (by omega) (by omega) (by omega)
 have U2:=S6.at zo.2
 rw[zo.1] at U2
 have K6:=F6.kept S6
 have e6:=K6 _ _ e2
 clear S4 F4 M4 S5 F5 M5 RS g70 f70 f73 f74 K4 e4
 repeat' first |simp(maxSteps:=2000000) (disch:=first |omega | (repeat first |assumption |exact Kept.refl _ |refine Kept.set' (by assumption) ?_ ?_ |refine Kept.set (by assumption) ?_ ?_ |omega)) only[go_sem, *] | (apply xs<;>intro _)<;>try omega
 have S7:=S6.set (70,0) (.cells (PT.ofList .leaf 0 [pt lb,pt (d4 rM),pt (d6 (75,0)),.pointer none,.pointer none,.slice none 0 0,.slice none 0 0,.map (some n2),.map (some (n2+1))]) false) zo.2 zo.1
 have F7:=F6.set (a:=70) (by decide) zo.2 (row [pt lb,pt (d4 rM),pt (d6 (75,0)),.pointer none,.pointer none,.slice none 0 0,.slice none 0 0,.map (some n2),.map (some (n2+1))])
 have M7:=M6.of (d':=d6) (C':=upd C6 (70,0) (row [pt lb,pt (d4 rM),pt (d6 (75,0)),.pointer none,.pointer none,.slice none 0 0,.slice none 0 0,.map (some n2),.map (some (n2+1))])) fun a ha=>⟨rfl,by rw[aq (by omega)]⟩
 have tn:=(La S7 F7 M7 hl0 hn vk).wf S7.wf
 rw[show d6 rM=d4 rM from fM.1] at tn
 refine iH (tn) (by simp only[*]) (by simp only[*]) (by simp only[go_sem, *]) (by simp only[go_sem, *]) ?_
 rintro v h8 n8 ⟨⟨tb,htb,amV,rfl,S8⟩,hn8,-⟩
 have F8:=F7.new (a:=78) (b:=0) (i:=tb) (by decide) (by omega) (row [pt (d4 rM),pt lb])
 have zq:upd d6 (78,0) tb (70,0)=n2+1+1∧upd (upd C6 (70,0) (row [pt lb,pt (d4 rM),pt (d6 (75,0)),.pointer none,.pointer none,.slice none 0 0,.slice none 0 0,.map (some n2),.map (some (n2+1))])) (78,0) (row [pt (d4 rM),pt lb]) (70,0)=row [pt lb,pt (d4 rM),pt (d6 (75,0)),.pointer none,.pointer none,.slice none 0 0,.slice none 0 0,.map (some n2),.map (some (n2+1))]:=⟨by rw[aq (by decide)];exact zo.1,by rw[aq (by decide),au]⟩
 have U3:=S8.at zq.2
 rw[zq.1] at U3
 have K8:=F8.kept S8
 have e8:=K8 _ _ e2
 have M8:=M7.of (d':=upd d6 (78,0) tb) (C':=upd (upd C6 (70,0) (row [pt lb,pt (d4 rM),pt (d6 (75,0)),.pointer none,.pointer none,.slice none 0 0,.slice none 0 0,.map (some n2),.map (some (n2+1))])) (78,0) (row [pt (d4 rM),pt lb])) fun a ha=>⟨aq (by omega),aq (by omega)⟩
 obtain⟨q0,q1,q2,q3,q4,q5,q6,q7,q8,hP⟩:=hn.PL
 have Bm:l.P.map (Value.int .i64)=[I6 q0,I6 q1,I6 q2,I6 q3,I6 q4,I6 q5,I6 q6,I6 q7,I6 q8,I6 sz]:=by rw[hP];rfl
 have hP1:l.P.getD 1 0=q1:=by rw[hP];rfl
 clear S6 F6 M6 S7 F7 M7 tn U2 K6 e6
 have IX:=cO hL.ok
 have hbu:=HZ hL.ok
 have hEw:=kM (en:=en) IX.2.2.1.1 IX.2.2.1.2 IX.2.2.2.1.1 IX.2.2.2.1.2
 have hlo:=IX.2.2.2.2.1
 have hq1:0≤q1∧q1+cJ en sl bu≤sz:=by
  have hq1:q1=0+sl*1:=by rw[←hP1,hL.P];simp only[placesOf,List.getD_cons_succ,List.getD_cons_zero]
  have hq6:l.P.getD 6 0=0+sl*1+1*cJ en sl bu+1+lo*3+lo*1+6:=by rw[hL.P];simp only[placesOf,List.getD_cons_succ,List.getD_cons_zero]
  have hq9:=hn.KR.p9
  have amY:=hn.p9
  omega
 repeat' first |simp(maxSteps:=2000000) (disch:=first |omega | (repeat first |assumption |exact Kept.refl _ |refine Kept.set' (by assumption) ?_ ?_ |refine Kept.set (by assumption) ?_ ?_ |omega)) only[go_sem, *,iL] | (apply xs<;>intro _)<;>try omega | ((with_reducible refine ep 14 ?_);refine dw 94 14 Mz (by first | (simp only[go_sem, *];done) |rfl) (by kernel_rfl) (by kernel_rfl) ?_)
 have S9:=S8.set (70,0) (.cells (PT.ofList .leaf 0 [pt lb,pt (d4 rM),pt (d6 (75,0)),pt tb,.pointer none,.slice none 0 0,.slice none 0 0,.map (some n2),.map (some (n2+1))]) false) zq.2 zq.1
 have F9:=F8.set (a:=70) (by decide) zq.2 (row [pt lb,pt (d4 rM),pt (d6 (75,0)),pt tb,.pointer none,.slice none 0 0,.slice none 0 0,.map (some n2),.map (some (n2+1))])
 have M9:=M8.of (d':=upd d6 (78,0) tb) (C':=upd _ (70,0) (row [pt lb,pt (d4 rM),pt (d6 (75,0)),pt tb,.pointer none,.slice none 0 0,.slice none 0 0,.map (some n2),.map (some (n2+1))])) fun a ha=>⟨rfl,aq (by omega)⟩
 have pn:=(HY S9 F9 (by omega) M9 IX.2.1 IX.2.2.1 hbu hq1.1 (by rw[vk];exact hq1.2) (by omega)).wf S9.wf
 rw[show upd d6 (78,0) tb rM=d4 rM from (aq (by decide)).trans fM.1] at pn
 refine iH (pn) (by simp only[*]) (by simp only[*]) (by simp only[go_sem, *]) (by simp only[go_sem, *]) ?_
 rintro v h10 n10 ⟨⟨d10,C10,rfl,S10,E10,Lb,F10⟩,am0,-⟩
 intro rd wr
 have fr:∀ a,67<a→d10 (a,0)=upd d6 (78,0) tb (a,0)∧C10 (a,0)=upd (upd (upd C6 (70,0) (row [pt lb,pt (d4 rM),pt (d6 (75,0)),.pointer none,.pointer none,.slice none 0 0,.slice none 0 0,.map (some n2),.map (some (n2+1))])) (78,0) (row [pt (d4 rM),pt lb])) (70,0) (row [pt lb,pt (d4 rM),pt (d6 (75,0)),pt tb,.pointer none,.slice none 0 0,.slice none 0 0,.map (some n2),.map (some (n2+1))]) (a,0):=fun a ha=>Lb a 0 (by omega) (by omega) (by omega) (by omega)
 have PS:=fr 70 (by omega)
 have Z_:=fr 73 (by omega)
 have x74:=fr 74 (by omega)
 have x75:=fr 75 (by omega)
 have x76:=fr 76 (by omega)
 have x77:=fr 77 (by omega)
 have x78:=fr 78 (by omega)
 rw[aq (by decide),zo.1,au] at PS
 rw[aq (by decide),PO.1,aq (by decide),aq (by decide),aq (by decide),PO.2] at Z_
 rw[aq (by decide),PR.1,aq (by decide),aq (by decide),aq (by decide),PR.2] at x74
 rw[aq (by decide),aq (by decide),aq (by decide),aq (by decide),p1] at x75
 rw[aq (by decide),aq (by decide),aq (by decide),aq (by decide),p2] at x76
 rw[aq (by decide),aq (by decide),aq (by decide),aq (by decide),p3] at x77
 rw[au,aq (by decide),au] at x78
 have xM:=Lb 0 0 (by omega) (by omega) (by omega) (by omega)
 have dM:d10 rM=d4 rM:=xM.1.trans ((aq (by decide)).trans fM.1)
 have M10:=M9.of (d':=d10) (C':=C10) fun a ha=>Lb a 0 (by omega) (by omega) (by omega) (by omega)
 have g10:=S10.at PS.2
 rw[PS.1] at g10
 have K10:=F10.kept S10
 have hmt:∀ h',Kept h2 h'→meets ((tI (pt lb)).ids h' []) [n2+1+1]=false:=fun h' hk=>A5 hl0 Ht hk (by simp only[List.all_cons,List.all_nil,Bool.and_true];exact decide_eq_true (by omega))
 have hNn:N<n2:=Ht.lt e2
 clear Lb fr S9 F9 M9 S8 F8 M8 pn e8 K8
 repeat' first |simp(maxSteps:=2000000) (disch:=first |omega | (repeat first |assumption |exact Kept.refl _ |refine Kept.set' (by assumption) ?_ ?_ |refine Kept.set (by assumption) ?_ ?_ |omega)) only[go_sem, *,iL] | (apply xs<;>intro _)<;>try omega | ((with_reducible refine ep 14 ?_);refine dw 94 14 Mz (by first | (simp only[go_sem, *];done) |rfl) (by kernel_rfl) (by kernel_rfl) ?_)
 refine .inr ⟨h2,n2,lb,l,gb,cv,sz,d10,_,by rw[PS.1],k02,by omega,hL,hn,S10.set (70,0) _ PS.2 PS.1,F10.set (a:=70) (by decide) PS.2 _,M10.of fun a ha=>⟨rfl,aq (by omega)⟩,⟨?_,?_,?_,?_,?_,?_,?_⟩,?_,?_⟩
 ·rw[au,dM,x75.1,x78.1,Z_.1,x74.1]
 ·rw[aq (by decide),x74.2];rfl
 ·rw[aq (by decide),x75.2,dM,x76.1,x77.1,List.length_replicate,show d6 rM=d4 rM from fM.1]
 ·rw[aq (by decide),x76.2]
 ·rw[aq (by decide),x77.2]
 ·rw[aq (by decide),x78.2,dM]
 ·exact⟨_,by rw[aq (by decide),Z_.2]⟩
 ·rw[aq (by decide),Z_.2];rfl
 ·rw[hP1];exact E10.put (by omega)
end Go.Proofs.YtofmbmclopgldaaGreat
