/-
  The law leapfroglaw24.SeekApart holds: the function returns true in every world, for every configuration, all towers, all searches and every order of their steps.
-/
import Derived.Test.YtofmbmclopgldaaGreatRows
import Derived.WalkKit
import Derived.ProofKit
import Derived.OpenShut
import Derived.Test.YtofmbmclopgldaaGreatAmU5
import Derived.Test.YtofmbmclopgldaaGreatCD
namespace Go.Proofs.YtofmbmclopgldaaGreat.seekApart
open Go.ChangeShapes Go.WideShapes Go.ChangeAt Go.RowKit Go.Am
theorem laidOut:laidOutB Tryz.prog=true:=by kernel_rfl
theorem own:ownKnob Tryz.prog.godebug=none:=by kernel_rfl
theorem ahz:o8 Tryz.prog 8 175=some [.int .u64,.int .u64,.int .i64]:=by kernel_rfl
theorem aaN:Tryz.prog.cellsOf 175=3:=by kernel_rfl
theorem aaO:0<Tryz.prog.bytesOf 175:=of_decide_eq_true (by kernel_rfl)
theorem ahA:o8 Tryz.prog 8 59=some [.int .i64,.int .i64,.int .u64]:=by kernel_rfl
theorem ae4:Tryz.prog.cellsOf 59=3:=by kernel_rfl
theorem ae5:0<Tryz.prog.bytesOf 59:=of_decide_eq_true (by kernel_rfl)
theorem ahB:o8 Tryz.prog 8 3=some [.int .i64]:=by kernel_rfl
theorem zm:Tryz.prog.cellsOf 3=1:=by kernel_rfl
theorem aaP:0<Tryz.prog.bytesOf 3:=of_decide_eq_true (by kernel_rfl)
set_option maxRecDepth 100000 in
theorem lifted (os:Os) (started:os.Started) (H:Type) (enc:TypeId×Value→H):
  ReturnsInHanded {} Tryz.checked os 5 .any (Rows.seekApartSpec.pre6 enc Tryz.prog Tryz.f5 Rows.seekApartRow.domain false) (Rows.seekApartSpec.post enc Tryz.prog Tryz.f5 false true false false):=by
 refine returnsInHanded_of_change_sized (C:=Tryz.checked) own started (by kernel_rfl) Tryz.func5
  (ChangeSpec.witness6 (enc:=enc) (C:=Tryz.checked) false ⟨#[],#[.agg ⟨[.int .i64 0,.int .i64 0,.int .u8 0,.int .i64 0,.int .u8 0,.int .i64 0,.slice none 0 0,.int .i64 0,.int .i64 0,.int .i64 0,.int .i64 0,.int .i64 0,.int .i64 0,.int .i64 0,.int .i64 0,.int .i64 0]⟩,.slice none 0 0,.slice none 0 0,.slice none 0 0],[]⟩ 8 (by kernel_rfl) (by kernel_rfl) (by kernel_rfl) (by kernel_rfl)) ?_
 intro W base args ds gs before XO hW hcnd hsz _
 have hval:∀ (j:Nat) t v,Tryz.f5.params[j]? = some t→args[j]? = some v→Value.okWide Tryz.prog W .any base t v:=XO
 have hW':=hW
 obtain⟨p,q,Ut,hV,rfl,hfz,hnd⟩:=hW
 have hA:DataW.TrodAll enc Tryz.prog W 0 (fun _=>true) true Tryz.f5.params.toList args.toList ds p:=Ut
 have Hx:(DataW.weightsEach Tryz.prog (Tryz.f5.params.toList++[]) (ds++gs)).all (·≤reachBytes)=true:=hsz
 rw[Tryz.params5] at hA hval Hx
 obtain⟨v0,vs0,d0,ds0,p0,q0,att,rfl,rfl,h0,r0⟩:=trodAll_cons hA
 obtain⟨v1,vs1,d1,ds1,p1,q1,aaQ,rfl,rfl,h1,r1⟩:=trodAll_cons r0
 obtain⟨v2,vs2,d2,ds2,p2,q2,aaR,rfl,rfl,h2,r2⟩:=trodAll_cons r1
 obtain⟨v3,vs3,d3,ds3,p3,q3,aaS,rfl,rfl,h3,r3⟩:=trodAll_cons r2
 obtain⟨rfl,rfl,rfl⟩:=trodAll_nil r3
 subst aaS
 subst aaR
 subst aaQ
 obtain rfl:args=#[v0,v1,v2,v3]:=by cases args;simp_all
 obtain⟨rfl,rfl⟩:=trodVars_none hV
 have CP:∀ n∈d0.weights Tryz.prog 27,n≤reachBytes:=fun n hn=>by
  have:=List.all_eq_true.1 Hx n (DataW.weights_mem_each (j:=0) rfl rfl n hn)
  simpa using this
 have hz1:∀ n∈d1.weights Tryz.prog 56,n≤reachBytes:=fun n hn=>by
  have:=List.all_eq_true.1 Hx n (DataW.weights_mem_each (j:=1) rfl rfl n hn)
  simpa using this
 have hz2:∀ n∈d2.weights Tryz.prog 79,n≤reachBytes:=fun n hn=>by
  have:=List.all_eq_true.1 Hx n (DataW.weights_mem_each (j:=2) rfl rfl n hn)
  simpa using this
 have hz3:∀ n∈d3.weights Tryz.prog 43,n≤reachBytes:=fun n hn=>by
  have:=List.all_eq_true.1 Hx n (DataW.weights_mem_each (j:=3) rfl rfl n hn)
  simpa using this
 have atu:=hval 0 27 v0 rfl rfl
 have atv:=hval 1 56 v1 rfl rfl
 have atw:=hval 2 79 v2 rfl rfl
 have atx:=hval 3 43 v3 rfl rfl
 clear Ut XO hsz Hx hval
 have h0':=h0
 have h1':=h1
 have h2':=h2
 have h3':=h3
 obtain⟨th,sl,en,bu,kd,dn,t0,t1,t2,t3,t4,t5,lo,tr,ba,s'0,x0,s0,xs0,rfl,aty,Rr,Ut,hl0,atz,ahC,-,-,aH2⟩:=Rq atu h0 CP
 obtain⟨x1,s1,A1,atD,aaT,hl1,Zw⟩:=An Tryz.underlying56 ahz aaN.symm (by decide) aaO (v0:=x0) aty atv h1 hz1
 replace Rr:=Rr.mono (sL _ x1)
 replace Ut:=Ut.keep (rz _ x1)
 obtain⟨x2,s2,A2,aBf,ae6,zo,hA2⟩:=An Tryz.underlying79 ahA ae4.symm (by decide) ae5 (v0:=(x0++x1)) atD atw h2 hz2
 replace Rr:=Rr.mono (sL _ x2)
 replace Ut:=Ut.keep (rz _ x2)
 replace aaT:=aaT.mono (sL _ x2)
 replace Zw:=Zw.keep (rz _ x2)
 obtain⟨x3,s3,A3,atE,atF,hl3,hA3⟩:=An Tryz.underlying43 ahB zm.symm (by decide) aaP (v0:=((x0++x1)++x2)) aBf atx h3 hz3
 replace Rr:=Rr.mono (sL _ x3)
 replace Ut:=Ut.keep (rz _ x3)
 replace aaT:=aaT.mono (sL _ x3)
 replace Zw:=Zw.keep (rz _ x3)
 replace ae6:=ae6.mono (sL _ x3)
 replace hA2:=hA2.keep (rz _ x3)
 simp only[List.append_nil] at hW'
 have hrel:aM (iN (((x0++x1)++x2)++x3)) [.agg ⟨[.int .i64 th,.int .i64 sl,.int .u8 en,.int .i64 bu,.int .u8 kd,.int .i64 dn,s0,.int .i64 t0,.int .i64 t1,.int .i64 t2,.int .i64 t3,.int .i64 t4,.int .i64 t5,.int .i64 lo,.int .i64 tr,.int .i64 ba]⟩,s1,s2,s3] [.agg ⟨[.int .i64 th,.int .i64 sl,.int .u8 en,.int .i64 bu,.int .u8 kd,.int .i64 dn,s'0,.int .i64 t0,.int .i64 t1,.int .i64 t2,.int .i64 t3,.int .i64 t4,.int .i64 t5,.int .i64 lo,.int .i64 tr,.int .i64 ba]⟩,v1,v2,v3] := .cons _ _ _ _ (.agg _ _ (.cons _ _ _ _ (.int _ _) (.cons _ _ _ _ (.int _ _) (.cons _ _ _ _ (.int _ _) (.cons _ _ _ _ (.int _ _) (.cons _ _ _ _ (.int _ _) (.cons _ _ _ _ (.int _ _) (.cons _ _ _ _ Rr (.cons _ _ _ _ (.int _ _) (.cons _ _ _ _ (.int _ _) (.cons _ _ _ _ (.int _ _) (.cons _ _ _ _ (.int _ _) (.cons _ _ _ _ (.int _ _) (.cons _ _ _ _ (.int _ _) (.cons _ _ _ _ (.int _ _) (.cons _ _ _ _ (.int _ _) (.cons _ _ _ _ (.int _ _) .nil))))))))))))))))) (.cons _ _ _ _ aaT (.cons _ _ _ _ ae6 (.cons _ _ _ _ atF .nil)))
 refine(GX atp bU atE hrel (N23 (DY _) Ut (fun x hx=>mI (atz x hx)) (Nat.lt_of_le_of_lt hl0 (by decide)) (D1 ahC.2.2.2.2.1) (D1 ahC.2.2.1) Zw hA2 hA3)).mono fun e W' ⟨he,hg,xX⟩=>?_
 subst he
 have hlt:∀ x∈p0++(p1++(p2++(p3))),x.block<W.heap.size:=fun x hx=>hW'.lt x (by simpa using hx)
 exact⟨_,rfl,Am.zC (pa:=p0++(p1++(p2++(p3)))) (pv:=[]) hW' (fun _ _ _=>(trodAll_cons_mk (shut_bool Tryz.underlying4 _) trodAll_mk0))
  (fun sp hsp=>by
   have g3:=WideElems.Trod_stays (sp':=sp) laidOut (by kernel_rfl) (of_decide_eq_true (by kernel_rfl)) h3' (fun x hx=>xX.same (hlt x (by simp[hx]))) (fun x hx=>hsp x (by simp[hx]))
   have g2:=WideElems.Trod_stays (sp':=sp) laidOut (by kernel_rfl) (of_decide_eq_true (by kernel_rfl)) h2' (fun x hx=>xX.same (hlt x (by simp[hx]))) (fun x hx=>hsp x (by simp[hx]))
   have g1:=WideElems.Trod_stays (sp':=sp) laidOut (by kernel_rfl) (of_decide_eq_true (by kernel_rfl)) h1' (fun x hx=>xX.same (hlt x (by simp[hx]))) (fun x hx=>hsp x (by simp[hx]))
   have g0:=WideElems.Trod_stays (sp':=sp) laidOut (by kernel_rfl) (of_decide_eq_true (by kernel_rfl)) h0' (fun x hx=>xX.same (hlt x (by simp[hx]))) (fun x hx=>hsp x (by simp[hx]))
   have:=trodAll_cons_mk g0 (trodAll_cons_mk g1 (trodAll_cons_mk g2 (trodAll_cons_mk g3 trodAll_mk0)))
   rw[List.append_nil] at this
   exact this) (fun _ _=>rfl) (by simp)
  hg (ok_one (by kernel_rfl) rfl (okWide_bool_mk Tryz.underlying4 _))⟩
theorem atG {a b:Bool} (h:a=true) (k:b=true):(a&&b)=true:=by rw[h,k];rfl
set_option maxHeartbeats 16000000 in
theorem joined:joinedFacts Tryz.checked.prog 5 Tryz.f5 Rows.seekApartSpec Rows.seekApartRow=true:=by
 unfold joinedFacts
 repeat' with_reducible refine atG ?_ ?_
 all_goals as_aux_lemma=>kernel_rfl
theorem over:Rows.seekApartRow.holds Tryz.pinned (OpenSpec.ofChange Rows.seekApartSpec):=
 OpenClaim.holds_of_wide 5 Tryz.f5 rfl rfl rfl rfl rfl rfl rfl ⟨rfl,rfl,rfl,rfl,rfl⟩ rfl rfl rfl rfl rfl (by kernel_rfl) Tryz.func5 joined
  (of_decide_eq_true (by kernel_rfl)) (by unfold Func.isWrapper;first | (rw[if_pos (by decide+kernel)];kernel_rfl) | (rw[if_neg (by decide+kernel)];exact⟨rfl,rfl⟩))
  (fun os started H enc _=>lifted os started H enc)
theorem proved:Rows.SeekApartSaid:=
 over
#print axioms proved
end Go.Proofs.YtofmbmclopgldaaGreat.seekApart
