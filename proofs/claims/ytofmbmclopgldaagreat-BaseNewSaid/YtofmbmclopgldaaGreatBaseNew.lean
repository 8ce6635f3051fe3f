/-
  The law leapfroglaw23.BaseNew holds: the function returns true in every world, for every configuration.
-/
import Derived.Test.YtofmbmclopgldaaGreatRows
import Derived.WalkKit
import Derived.ProofKit
import Derived.OpenShut
import Derived.Test.YtofmbmclopgldaaGreatAmU5
import Derived.Test.YtofmbmclopgldaaGreatDS
import Derived.Test.YtofmbmclopgldaaGreatBQ0
namespace Go.Proofs.YtofmbmclopgldaaGreat.baseNew
open Go.ChangeShapes Go.WideShapes Go.ChangeAt Go.RowKit Go.Am
theorem laidOut:laidOutB Tryz.prog=true:=by kernel_rfl
theorem own:ownKnob Tryz.prog.godebug=none:=by kernel_rfl
set_option maxRecDepth 100000 in
theorem lifted (os:Os) (started:os.Started) (H:Type) (enc:TypeId×Value→H):
  ReturnsInHanded {} Tryz.checked os 3 .any (Rows.baseNewSpec.pre6 enc Tryz.prog Tryz.f3 Rows.baseNewRow.domain false) (Rows.baseNewSpec.post enc Tryz.prog Tryz.f3 false true false false):=by
 refine returnsInHanded_of_change_sized (C:=Tryz.checked) own started (by kernel_rfl) Tryz.func3
  (ChangeSpec.witness6 (enc:=enc) (C:=Tryz.checked) false ⟨#[],#[.agg ⟨[.int .i64 0,.int .i64 0,.int .u8 0,.int .i64 0,.int .u8 0,.int .i64 0,.slice none 0 0,.int .i64 0,.int .i64 0,.int .i64 0,.int .i64 0,.int .i64 0,.int .i64 0,.int .i64 0,.int .i64 0,.int .i64 0]⟩],[]⟩ 8 (by kernel_rfl) (by kernel_rfl) (by kernel_rfl) (by kernel_rfl)) ?_
 intro W base args ds gs before MV hW hcnd hsz _
 have hval:∀ (j:Nat) t v,Tryz.f3.params[j]? = some t→args[j]? = some v→Value.okWide Tryz.prog W .any base t v:=MV
 have hW':=hW
 obtain⟨p,q,Uo,hV,rfl,hfz,hnd⟩:=hW
 have hA:DataW.TrodAll enc Tryz.prog W 0 (fun _=>true) true Tryz.f3.params.toList args.toList ds p:=Uo
 have HW:(DataW.weightsEach Tryz.prog (Tryz.f3.params.toList++[]) (ds++gs)).all (·≤reachBytes)=true:=hsz
 rw[Tryz.params3] at hA hval HW
 obtain⟨v0,vs0,d0,ds0,p0,q0,adz,rfl,rfl,h0,r0⟩:=trodAll_cons hA
 obtain⟨rfl,rfl,rfl⟩:=trodAll_nil r0
 obtain rfl:args=#[v0]:=by cases args;simp_all
 obtain⟨rfl,rfl⟩:=trodVars_none hV
 have CF:∀ n∈d0.weights Tryz.prog 27,n≤reachBytes:=fun n hn=>by
  have:=List.all_eq_true.1 HW n (DataW.weights_mem_each (j:=0) rfl rfl n hn)
  simpa using this
 have adA:=hval 0 27 v0 rfl rfl
 clear Uo MV hsz HW hval
 have h0':=h0
 obtain⟨th,sl,en,bu,kd,dn,t0,t1,t2,t3,t4,t5,lo,tr,ba,s'0,x0,s0,xs0,rfl,adB,adC,Uo,hl0,anH,-,-,-,anI⟩:=Ih adA h0 CF
 simp only[List.append_nil] at hW'
 have hrel:aF (kW x0) [.agg ⟨[.int .i64 th,.int .i64 sl,.int .u8 en,.int .i64 bu,.int .u8 kd,.int .i64 dn,s0,.int .i64 t0,.int .i64 t1,.int .i64 t2,.int .i64 t3,.int .i64 t4,.int .i64 t5,.int .i64 lo,.int .i64 tr,.int .i64 ba]⟩] [.agg ⟨[.int .i64 th,.int .i64 sl,.int .u8 en,.int .i64 bu,.int .u8 kd,.int .i64 dn,s'0,.int .i64 t0,.int .i64 t1,.int .i64 t2,.int .i64 t3,.int .i64 t4,.int .i64 t5,.int .i64 lo,.int .i64 tr,.int .i64 ba]⟩] := .cons _ _ _ _ (.agg _ _ (.cons _ _ _ _ (.int _ _) (.cons _ _ _ _ (.int _ _) (.cons _ _ _ _ (.int _ _) (.cons _ _ _ _ (.int _ _) (.cons _ _ _ _ (.int _ _) (.cons _ _ _ _ (.int _ _) (.cons _ _ _ _ adC (.cons _ _ _ _ (.int _ _) (.cons _ _ _ _ (.int _ _) (.cons _ _ _ _ (.int _ _) (.cons _ _ _ _ (.int _ _) (.cons _ _ _ _ (.int _ _) (.cons _ _ _ _ (.int _ _) (.cons _ _ _ _ (.int _ _) (.cons _ _ _ _ (.int _ _) (.cons _ _ _ _ (.int _ _) .nil))))))))))))))))) .nil
 refine(A0 adx bA adB hrel (Ii th sl en bu kd dn t0 t1 t2 t3 t4 t5 lo tr ba s0 xs0 _ _ (yC _) Uo hl0)).mono fun e W' ⟨he,hg,yF⟩=>?_
 subst he
 have hlt:∀ x∈p0,x.block<W.heap.size:=fun x hx=>hW'.lt x (by simpa using hx)
 exact⟨_,rfl,Am.um (pa:=p0) (pv:=[]) hW' (fun _ _ _=>(trodAll_cons_mk (shut_bool Tryz.underlying4 _) trodAll_mk0))
  (fun sp hsp=>by
   have g0:=WideElems.Trod_stays (sp':=sp) laidOut (by kernel_rfl) (of_decide_eq_true (by kernel_rfl)) h0' (fun x hx=>yF.same (hlt x (by simp[hx]))) (fun x hx=>hsp x (by simp[hx]))
   have:=trodAll_cons_mk g0 trodAll_mk0
   rw[List.append_nil] at this
   exact this) (fun _ _=>rfl) (by simp)
  hg (ok_one (by kernel_rfl) rfl (okWide_bool_mk Tryz.underlying4 _))⟩
theorem adD {a b:Bool} (h:a=true) (k:b=true):(a&&b)=true:=by rw[h,k];rfl
set_option maxHeartbeats 16000000 in
theorem joined:joinedFacts Tryz.checked.prog 3 Tryz.f3 Rows.baseNewSpec Rows.baseNewRow=true:=by
 unfold joinedFacts
 repeat' with_reducible refine adD ?_ ?_
 all_goals as_aux_lemma=>kernel_rfl
theorem over:Rows.baseNewRow.holds Tryz.pinned (OpenSpec.ofChange Rows.baseNewSpec):=
 OpenClaim.holds_of_wide 3 Tryz.f3 rfl rfl rfl rfl rfl rfl rfl ⟨rfl,rfl,rfl,rfl,rfl⟩ rfl rfl rfl rfl rfl (by kernel_rfl) Tryz.func3 joined
  (of_decide_eq_true (by kernel_rfl)) (by unfold Func.isWrapper;first | (rw[if_pos (by decide+kernel)];kernel_rfl) | (rw[if_neg (by decide+kernel)];exact⟨rfl,rfl⟩))
  (fun os started H enc _=>lifted os started H enc)
theorem proved:Rows.BaseNewSaid:=
 over
#print axioms proved
end Go.Proofs.YtofmbmclopgldaaGreat.baseNew
