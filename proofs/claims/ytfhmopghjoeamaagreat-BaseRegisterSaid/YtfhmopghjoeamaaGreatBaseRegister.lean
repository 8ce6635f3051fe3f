/-
  The law leapfroglaw23.BaseRegister holds: the function returns true in every world, for every configuration and all moves.
-/
import Derived.Test.YtfhmopghjoeamaaGreatRows
import Derived.WalkKit
import Derived.ProofKit
import Derived.OpenShut
import Derived.Test.YtfhmopghjoeamaaGreatAmU5
import Derived.Test.YtfhmopghjoeamaaGreatCE
import Derived.Test.YtfhmopghjoeamaaGreatBQ0
namespace Go.Proofs.YtfhmopghjoeamaaGreat.baseRegister
open Go.ChangeShapes Go.WideShapes Go.ChangeAt Go.RowKit Go.Am
theorem laidOut:laidOutB Tryz.prog=true:=by kernel_rfl
theorem own:ownKnob Tryz.prog.godebug=none:=by kernel_rfl
theorem PX:qA Tryz.prog 8 64=some [.int .u8,.int .i64]:=by kernel_rfl
theorem KM:Tryz.prog.cellsOf 64=2:=by kernel_rfl
theorem KN:0<Tryz.prog.bytesOf 64:=of_decide_eq_true (by kernel_rfl)
set_option maxRecDepth 100000 in
theorem lifted (os:Os) (started:os.Started) (H:Type) (enc:TypeId×Value→H):
  ReturnsInHanded {} Tryz.checked os 5 .any (Rows.baseRegisterSpec.pre6 enc Tryz.prog Tryz.f5 Rows.baseRegisterRow.domain false) (Rows.baseRegisterSpec.post enc Tryz.prog Tryz.f5 false true false false):=by
 refine returnsInHanded_of_change_sized (C:=Tryz.checked) own started (by kernel_rfl) Tryz.func5
  (ChangeSpec.witness6 (enc:=enc) (C:=Tryz.checked) false ⟨#[],#[.agg ⟨[.int .i64 0,.int .i64 0,.int .u8 0,.int .i64 0,.int .u8 0,.int .i64 0,.slice none 0 0,.int .i64 0,.int .i64 0,.int .i64 0,.int .i64 0,.int .i64 0,.int .i64 0,.int .i64 0,.int .i64 0,.int .i64 0]⟩,.slice none 0 0],[]⟩ 8 (by kernel_rfl) (by kernel_rfl) (by kernel_rfl) (by kernel_rfl)) ?_
 intro W base args ds gs before Ij hW hcnd hsz _
 have hval:∀ (j:Nat) t v,Tryz.f5.params[j]? = some t→args[j]? = some v→Value.okWide Tryz.prog W .any base t v:=Ij
 have Xr:=hW
 obtain⟨p,q,Ew,hV,rfl,hfz,hnd⟩:=hW
 have hA:DataW.TrodAll enc Tryz.prog W 0 (fun _=>true) true Tryz.f5.params.toList args.toList ds p:=Ew
 have AI:(DataW.weightsEach Tryz.prog (Tryz.f5.params.toList++[]) (ds++gs)).all (·≤reachBytes)=true:=hsz
 rw[Tryz.params5] at hA hval AI
 obtain⟨v0,vs0,d0,ds0,p0,q0,Xt,rfl,rfl,h0,r0⟩:=trodAll_cons hA
 obtain⟨v1,vs1,d1,ds1,p1,q1,KO,rfl,rfl,h1,r1⟩:=trodAll_cons r0
 obtain⟨rfl,rfl,rfl⟩:=trodAll_nil r1
 subst KO
 obtain rfl:args=#[v0,v1]:=by cases args;simp_all
 obtain⟨rfl,rfl⟩:=trodVars_none hV
 have zm:∀ n∈d0.weights Tryz.prog 32,n≤reachBytes:=fun n hn=>by
  have:=List.all_eq_true.1 AI n (DataW.weights_mem_each (j:=0) rfl rfl n hn)
  simpa using this
 have Te:∀ n∈d1.weights Tryz.prog 62,n≤reachBytes:=fun n hn=>by
  have:=List.all_eq_true.1 AI n (DataW.weights_mem_each (j:=1) rfl rfl n hn)
  simpa using this
 have Xu:=hval 0 32 v0 rfl rfl
 have Xv:=hval 1 62 v1 rfl rfl
 clear Ew Ij hsz AI hval
 have h0':=h0
 have h1':=h1
 obtain⟨th,sl,en,bu,kd,dn,t0,t1,t2,t3,t4,t5,lo,tr,ba,s'0,x0,s0,xs0,rfl,Xw,KP,Ew,hl0,afS,-,-,-,afT⟩:=D3 Xu h0 zm
 obtain⟨x1,s1,A1,Xx,Xy,P5,OE⟩:=Aq Tryz.underlying62 PX KM.symm (by decide) KN (v0:=x0) Xw Xv h1 Te
 replace KP:=KP.mono (vp _ x1)
 replace Ew:=Ew.keep (x8 _ x1)
 simp only[List.append_nil] at Xr
 have hrel:aD (eA (x0++x1)) [.agg ⟨[.int .i64 th,.int .i64 sl,.int .u8 en,.int .i64 bu,.int .u8 kd,.int .i64 dn,s0,.int .i64 t0,.int .i64 t1,.int .i64 t2,.int .i64 t3,.int .i64 t4,.int .i64 t5,.int .i64 lo,.int .i64 tr,.int .i64 ba]⟩,s1] [.agg ⟨[.int .i64 th,.int .i64 sl,.int .u8 en,.int .i64 bu,.int .u8 kd,.int .i64 dn,s'0,.int .i64 t0,.int .i64 t1,.int .i64 t2,.int .i64 t3,.int .i64 t4,.int .i64 t5,.int .i64 lo,.int .i64 tr,.int .i64 ba]⟩,v1] := .cons _ _ _ _ (.agg _ _ (.cons _ _ _ _ (.int _ _) (.cons _ _ _ _ (.int _ _) (.cons _ _ _ _ (.int _ _) (.cons _ _ _ _ (.int _ _) (.cons _ _ _ _ (.int _ _) (.cons _ _ _ _ (.int _ _) (.cons _ _ _ _ KP (.cons _ _ _ _ (.int _ _) (.cons _ _ _ _ (.int _ _) (.cons _ _ _ _ (.int _ _) (.cons _ _ _ _ (.int _ _) (.cons _ _ _ _ (.int _ _) (.cons _ _ _ _ (.int _ _) (.cons _ _ _ _ (.int _ _) (.cons _ _ _ _ (.int _ _) (.cons _ _ _ _ (.int _ _) .nil))))))))))))))))) (.cons _ _ _ _ Xy .nil)
 refine(xY Xq cO Xx hrel (AL th sl en bu kd dn t0 t1 t2 t3 t4 t5 lo tr ba s0 xs0 s1 A1 _ _ _ (vo _) Ew hl0 OE)).mono fun e W' ⟨he,hg,tT⟩=>?_
 subst he
 have hlt:∀ x∈p0++(p1),x.block<W.heap.size:=fun x hx=>Xr.lt x (by simpa using hx)
 exact⟨_,rfl,Am.rq (pa:=p0++(p1)) (pv:=[]) Xr (fun _ _ _=>(trodAll_cons_mk (shut_bool Tryz.underlying4 _) trodAll_mk0))
  (fun sp hsp=>by
   have g1:=WideElems.Trod_stays (sp':=sp) laidOut (by kernel_rfl) (of_decide_eq_true (by kernel_rfl)) h1' (fun x hx=>tT.same (hlt x (by simp[hx]))) (fun x hx=>hsp x (by simp[hx]))
   have g0:=WideElems.Trod_stays (sp':=sp) laidOut (by kernel_rfl) (of_decide_eq_true (by kernel_rfl)) h0' (fun x hx=>tT.same (hlt x (by simp[hx]))) (fun x hx=>hsp x (by simp[hx]))
   have:=trodAll_cons_mk g0 (trodAll_cons_mk g1 trodAll_mk0)
   rw[List.append_nil] at this
   exact this) (fun _ _=>rfl) (by simp)
  hg (ok_one (by kernel_rfl) rfl (okWide_bool_mk Tryz.underlying4 _))⟩
theorem over:Rows.baseRegisterRow.holds Tryz.pinned (OpenSpec.ofChange Rows.baseRegisterSpec):=
 OpenClaim.holds_of_wide 5 Tryz.f5 rfl rfl rfl rfl rfl rfl rfl ⟨rfl,rfl,rfl,rfl,rfl⟩ rfl rfl rfl rfl rfl (by kernel_rfl) Tryz.func5 (by kernel_rfl)
  (of_decide_eq_true (by kernel_rfl)) (by unfold Func.isWrapper;first | (rw[if_pos (by decide+kernel)];kernel_rfl) | (rw[if_neg (by decide+kernel)];exact⟨rfl,rfl⟩))
  (fun os started H enc _=>lifted os started H enc)
theorem proved:Rows.BaseRegisterSaid:=
 over
#print axioms proved
end Go.Proofs.YtfhmopghjoeamaaGreat.baseRegister
