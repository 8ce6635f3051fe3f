/-
  The law leapfroglaw24.SeekSteps holds: the function returns true in every world, for every configuration, all towers, every thread, value and key.
-/
import Derived.Test.YtofmbmclopgldaaGreatRows
import Derived.WalkKit
import Derived.ProofKit
import Derived.OpenShut
import Derived.Test.YtofmbmclopgldaaGreatAmU5
import Derived.Test.YtofmbmclopgldaaGreatCD
namespace Go.Proofs.YtofmbmclopgldaaGreat.seekSteps
open Go.ChangeShapes Go.WideShapes Go.ChangeAt Go.RowKit Go.Am
theorem laidOut:laidOutB Tryz.prog=true:=by kernel_rfl
theorem own:ownKnob Tryz.prog.godebug=none:=by kernel_rfl
theorem ahz:o8 Tryz.prog 8 175=some [.int .u64,.int .u64,.int .i64]:=by kernel_rfl
theorem aaN:Tryz.prog.cellsOf 175=3:=by kernel_rfl
theorem aaO:0<Tryz.prog.bytesOf 175:=of_decide_eq_true (by kernel_rfl)
theorem ahA:o8 Tryz.prog 8 59=some [.int .i64,.int .i64,.int .u64]:=by kernel_rfl
theorem split2 {ns:List Int} (h:ns.length=3):∃ c0 c1 c2,ns=[c0,c1,c2]:=by
 match ns,h with
 | [c0,c1,c2],_=>exact⟨c0,c1,c2,rfl⟩
set_option maxRecDepth 100000 in
theorem lifted (os:Os) (started:os.Started) (H:Type) (enc:TypeId×Value→H):
  ReturnsInHanded {} Tryz.checked os 7 .any (Rows.seekStepsSpec.pre6 enc Tryz.prog Tryz.f7 Rows.seekStepsRow.domain false) (Rows.seekStepsSpec.post enc Tryz.prog Tryz.f7 false true false false):=by
 refine returnsInHanded_of_change_sized (C:=Tryz.checked) own started (by kernel_rfl) Tryz.func7
  (ChangeSpec.witness6 (enc:=enc) (C:=Tryz.checked) false ⟨#[],#[.agg ⟨[.int .i64 0,.int .i64 0,.int .u8 0,.int .i64 0,.int .u8 0,.int .i64 0,.slice none 0 0,.int .i64 0,.int .i64 0,.int .i64 0,.int .i64 0,.int .i64 0,.int .i64 0,.int .i64 0,.int .i64 0,.int .i64 0]⟩,.slice none 0 0,.agg ⟨[.int .i64 0,.int .i64 0,.int .u64 0]⟩],[]⟩ 8 (by kernel_rfl) (by kernel_rfl) (by kernel_rfl) (by kernel_rfl)) ?_
 intro W base args ds gs before XO hW hcnd hsz _
 have hval:∀ (j:Nat) t v,Tryz.f7.params[j]? = some t→args[j]? = some v→Value.okWide Tryz.prog W .any base t v:=XO
 have hW':=hW
 obtain⟨p,q,Ut,hV,rfl,hfz,hnd⟩:=hW
 have hA:DataW.TrodAll enc Tryz.prog W 0 (fun _=>true) true Tryz.f7.params.toList args.toList ds p:=Ut
 have Hx:(DataW.weightsEach Tryz.prog (Tryz.f7.params.toList++[]) (ds++gs)).all (·≤reachBytes)=true:=hsz
 rw[Tryz.params7] at hA hval Hx
 obtain⟨v0,vs0,d0,ds0,p0,q0,att,rfl,rfl,h0,r0⟩:=trodAll_cons hA
 obtain⟨v1,vs1,d1,ds1,p1,q1,aaQ,rfl,rfl,h1,r1⟩:=trodAll_cons r0
 obtain⟨v2,vs2,d2,ds2,p2,q2,aaR,rfl,rfl,h2,r2⟩:=trodAll_cons r1
 obtain⟨rfl,rfl,rfl⟩:=trodAll_nil r2
 subst aaR
 subst aaQ
 obtain rfl:args=#[v0,v1,v2]:=by cases args;simp_all
 obtain⟨rfl,rfl⟩:=trodVars_none hV
 have CP:∀ n∈d0.weights Tryz.prog 27,n≤reachBytes:=fun n hn=>by
  have:=List.all_eq_true.1 Hx n (DataW.weights_mem_each (j:=0) rfl rfl n hn)
  simpa using this
 have hz1:∀ n∈d1.weights Tryz.prog 56,n≤reachBytes:=fun n hn=>by
  have:=List.all_eq_true.1 Hx n (DataW.weights_mem_each (j:=1) rfl rfl n hn)
  simpa using this
 have atu:=hval 0 27 v0 rfl rfl
 have atv:=hval 1 56 v1 rfl rfl
 have atw:=hval 2 59 v2 rfl rfl
 clear Ut XO hsz Hx hval
 have h0':=h0
 have h1':=h1
 have h2':=h2
 obtain⟨th,sl,en,bu,kd,dn,t0,t1,t2,t3,t4,t5,lo,tr,ba,s'0,x0,s0,xs0,rfl,aty,Rr,Ut,hl0,atz,ahC,-,-,aH2⟩:=Rq atu h0 CP
 obtain⟨x1,s1,A1,atD,aaT,hl1,Zw⟩:=An Tryz.underlying56 ahz aaN.symm (by decide) aaO (v0:=x0) aty atv h1 hz1
 replace Rr:=Rr.mono (sL _ x1)
 replace Ut:=Ut.keep (rz _ x1)
 obtain⟨ns2,rfl,l2,w2⟩:=Om Tryz.underlying59 rfl ahA atw h2
 obtain⟨ahD,ahE,ahF,rfl⟩:=split2 l2
 simp only[List.append_nil] at hW'
 have hrel:aM (iN (x0++x1)) [.agg ⟨[.int .i64 th,.int .i64 sl,.int .u8 en,.int .i64 bu,.int .u8 kd,.int .i64 dn,s0,.int .i64 t0,.int .i64 t1,.int .i64 t2,.int .i64 t3,.int .i64 t4,.int .i64 t5,.int .i64 lo,.int .i64 tr,.int .i64 ba]⟩,s1,.agg ⟨vW [.int .i64,.int .i64,.int .u64] [ahD,ahE,ahF]⟩] [.agg ⟨[.int .i64 th,.int .i64 sl,.int .u8 en,.int .i64 bu,.int .u8 kd,.int .i64 dn,s'0,.int .i64 t0,.int .i64 t1,.int .i64 t2,.int .i64 t3,.int .i64 t4,.int .i64 t5,.int .i64 lo,.int .i64 tr,.int .i64 ba]⟩,v1,.agg ⟨vW [.int .i64,.int .i64,.int .u64] [ahD,ahE,ahF]⟩] := .cons _ _ _ _ (.agg _ _ (.cons _ _ _ _ (.int _ _) (.cons _ _ _ _ (.int _ _) (.cons _ _ _ _ (.int _ _) (.cons _ _ _ _ (.int _ _) (.cons _ _ _ _ (.int _ _) (.cons _ _ _ _ (.int _ _) (.cons _ _ _ _ Rr (.cons _ _ _ _ (.int _ _) (.cons _ _ _ _ (.int _ _) (.cons _ _ _ _ (.int _ _) (.cons _ _ _ _ (.int _ _) (.cons _ _ _ _ (.int _ _) (.cons _ _ _ _ (.int _ _) (.cons _ _ _ _ (.int _ _) (.cons _ _ _ _ (.int _ _) (.cons _ _ _ _ (.int _ _) .nil))))))))))))))))) (.cons _ _ _ _ aaT (.cons _ _ _ _ (.agg _ _ (Iu _ _)) .nil))
 refine(GX atp bU atD hrel (ack (DY _) Ut (fun x hx=>mI (atz x hx)) (Nat.lt_of_le_of_lt hl0 (by decide)) (D1 ahC.2.2.2.2.1) (D1 ahC.2.2.1) Zw (mI w2.2.2.1))).mono fun e W' ⟨he,hg,xX⟩=>?_
 subst he
 have hlt:∀ x∈p0++(p1++(p2)),x.block<W.heap.size:=fun x hx=>hW'.lt x (by simpa using hx)
 exact⟨_,rfl,Am.zC (pa:=p0++(p1++(p2))) (pv:=[]) hW' (fun _ _ _=>(trodAll_cons_mk (shut_bool Tryz.underlying4 _) trodAll_mk0))
  (fun sp hsp=>by
   have g2:=WideElems.Trod_stays (sp':=sp) laidOut (by kernel_rfl) (of_decide_eq_true (by kernel_rfl)) h2' (fun x hx=>xX.same (hlt x (by simp[hx]))) (fun x hx=>hsp x (by simp[hx]))
   have g1:=WideElems.Trod_stays (sp':=sp) laidOut (by kernel_rfl) (of_decide_eq_true (by kernel_rfl)) h1' (fun x hx=>xX.same (hlt x (by simp[hx]))) (fun x hx=>hsp x (by simp[hx]))
   have g0:=WideElems.Trod_stays (sp':=sp) laidOut (by kernel_rfl) (of_decide_eq_true (by kernel_rfl)) h0' (fun x hx=>xX.same (hlt x (by simp[hx]))) (fun x hx=>hsp x (by simp[hx]))
   have:=trodAll_cons_mk g0 (trodAll_cons_mk g1 (trodAll_cons_mk g2 trodAll_mk0))
   rw[List.append_nil] at this
   exact this) (fun _ _=>rfl) (by simp)
  hg (ok_one (by kernel_rfl) rfl (okWide_bool_mk Tryz.underlying4 _))⟩
theorem atG {a b:Bool} (h:a=true) (k:b=true):(a&&b)=true:=by rw[h,k];rfl
set_option maxHeartbeats 16000000 in
theorem joined:joinedFacts Tryz.checked.prog 7 Tryz.f7 Rows.seekStepsSpec Rows.seekStepsRow=true:=by
 unfold joinedFacts
 repeat' with_reducible refine atG ?_ ?_
 all_goals as_aux_lemma=>kernel_rfl
theorem over:Rows.seekStepsRow.holds Tryz.pinned (OpenSpec.ofChange Rows.seekStepsSpec):=
 OpenClaim.holds_of_wide 7 Tryz.f7 rfl rfl rfl rfl rfl rfl rfl ⟨rfl,rfl,rfl,rfl,rfl⟩ rfl rfl rfl rfl rfl (by kernel_rfl) Tryz.func7 joined
  (of_decide_eq_true (by kernel_rfl)) (by unfold Func.isWrapper;first | (rw[if_pos (by decide+kernel)];kernel_rfl) | (rw[if_neg (by decide+kernel)];exact⟨rfl,rfl⟩))
  (fun os started H enc _=>lifted os started H enc)
theorem proved:Rows.SeekStepsSaid:=
 over
#print axioms proved
end Go.Proofs.YtofmbmclopgldaaGreat.seekSteps
