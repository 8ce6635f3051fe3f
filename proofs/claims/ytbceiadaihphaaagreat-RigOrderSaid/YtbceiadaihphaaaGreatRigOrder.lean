/-
  The law leapfroglaw20.RigOrder holds: the function returns true in every world, for any engine, programs and picks.
-/
import Derived.Test.YtbceiadaihphaaaGreatRows
import Derived.WalkKit
import Derived.ProofKit
import Derived.OpenShut
import Derived.Test.YtbceiadaihphaaaGreatAmU5
import Derived.Test.YtbceiadaihphaaaGreatRL7
import Derived.Test.YtbceiadaihphaaaGreatRPQ0
namespace Go.Proofs.YtbceiadaihphaaaGreat.rigOrder
open Go.ChangeShapes Go.WideShapes Go.ChangeAt Go.RowKit Go.Am
theorem laidOut:laidOutB Tryz.prog=true:=by kernel_rfl
theorem own:ownKnob Tryz.prog.godebug=none:=by kernel_rfl
theorem SH:jS Tryz.prog 8 23=some [.int .u8,.int .i64]:=by kernel_rfl
theorem Nd {ns:List Int} (h:ns.length=2):∃ c0 c1,ns=[c0,c1]:=by
 match ns,h with
 | [c0,c1],_=>exact⟨c0,c1,rfl⟩
theorem SI:jS Tryz.prog 8 51=some [.int .u8,.int .u64]:=by kernel_rfl
theorem Nf:Tryz.prog.cellsOf 51=2:=by kernel_rfl
theorem Ji:Tryz.prog.cellsOf 49=1:=by kernel_rfl
theorem Ng:0<Tryz.prog.bytesOf 49:=of_decide_eq_true (by kernel_rfl)
theorem FV:0<Tryz.prog.bytesOf 51:=of_decide_eq_true (by kernel_rfl)
theorem SJ:jS Tryz.prog 8 3=some [.int .i64]:=by kernel_rfl
theorem Nh:Tryz.prog.cellsOf 3=1:=by kernel_rfl
theorem Ni:0<Tryz.prog.bytesOf 3:=of_decide_eq_true (by kernel_rfl)
set_option maxRecDepth 100000 in
theorem lifted (os:Os) (started:os.Started) (H:Type) (enc:TypeId×Value→H):
  ReturnsInHanded {} Tryz.checked os 4 .any (Rows.rigOrderSpec.pre6 enc Tryz.prog Tryz.f4 Rows.rigOrderRow.domain false) (Rows.rigOrderSpec.post enc Tryz.prog Tryz.f4 false true false false):=by
 refine returnsInHanded_of_change_sized (C:=Tryz.checked) own started (by kernel_rfl) Tryz.func4
  (ChangeSpec.witness6 (enc:=enc) (C:=Tryz.checked) false ⟨#[],#[.agg ⟨[.int .u8 0,.int .i64 0]⟩,.slice none 0 0,.slice none 0 0],[]⟩ 8 (by kernel_rfl) (by kernel_rfl) (by kernel_rfl) (by kernel_rfl)) ?_
 intro W base args ds gs before Kw hW hcnd hsz _
 have hval:∀ (j:Nat) t v,Tryz.f4.params[j]? = some t→args[j]? = some v→Value.okWide Tryz.prog W .any base t v:=Kw
 have Io:=hW
 obtain⟨p,q,O1,hV,rfl,hfz,hnd⟩:=hW
 have hA:DataW.TrodAll enc Tryz.prog W 0 (fun _=>true) true Tryz.f4.params.toList args.toList ds p:=O1
 have Jj:(DataW.weightsEach Tryz.prog (Tryz.f4.params.toList++[]) (ds++gs)).all (·≤reachBytes)=true:=hsz
 rw[Tryz.params4] at hA hval Jj
 obtain⟨v0,vs0,d0,ds0,p0,q0,ZI,rfl,rfl,h0,r0⟩:=trodAll_cons hA
 obtain⟨v1,vs1,d1,ds1,p1,q1,Nj,rfl,rfl,h1,r1⟩:=trodAll_cons r0
 obtain⟨v2,vs2,d2,ds2,p2,q2,Nk,rfl,rfl,h2,r2⟩:=trodAll_cons r1
 obtain⟨rfl,rfl,rfl⟩:=trodAll_nil r2
 subst Nk
 subst Nj
 obtain rfl:args=#[v0,v1,v2]:=by cases args;simp_all
 obtain⟨rfl,rfl⟩:=trodVars_none hV
 have hz1:∀ n∈d1.weights Tryz.prog 24,n≤reachBytes:=fun n hn=>by
  have:=List.all_eq_true.1 Jj n (DataW.weights_mem_each (j:=1) rfl rfl n hn)
  simpa using this
 have Mp:∀ n∈d2.weights Tryz.prog 25,n≤reachBytes:=fun n hn=>by
  have:=List.all_eq_true.1 Jj n (DataW.weights_mem_each (j:=2) rfl rfl n hn)
  simpa using this
 have ZJ:=hval 0 23 v0 rfl rfl
 have ZK:=hval 1 24 v1 rfl rfl
 have ZL:=hval 2 25 v2 rfl rfl
 clear O1 Kw hsz Jj hval
 have h0':=h0
 have h1':=h1
 have h2':=h2
 obtain⟨ns0,rfl,l0,w0⟩:=EN Tryz.underlying23 rfl SH ZJ h0
 obtain⟨Jk,Nl,rfl⟩:=Nd l0
 obtain⟨x1,s1,A1,ZM,Nm,hl1,Ku⟩:=ze Tryz.underlying24 Tryz.underlying49 Ji SI Nf.symm (by decide) Ng FV (v0:=[]) (fun k v h=>by simp at h) ZK h1 hz1
 have hB1:=dV.bound Ku (r8 _)
 obtain⟨x2,s2,A2,ZN,ZO,Nt,xk⟩:=BL Tryz.underlying25 SJ Nh.symm (by decide) Ni (v0:=([]++x1)) ZM ZL h2 Mp
 replace Nm:=Nm.mono (r_ _ x2)
 replace Ku:=Ku.keep (za _ x2)
 simp only[List.append_nil] at Io
 have gX:aH (fH (([]++x1)++x2)) [.agg ⟨qB [.int .u8,.int .i64] [Jk,Nl]⟩,s1,s2] [.agg ⟨qB [.int .u8,.int .i64] [Jk,Nl]⟩,v1,v2] := .cons _ _ _ _ (.agg _ _ (Af _ _)) (.cons _ _ _ _ Nm (.cons _ _ _ _ ZO .nil))
 obtain⟨x0',rfl⟩:∃ x:Nat,Jk=x:=⟨Jk.toNat,by have:=(wN w0.1).1;omega⟩
 refine(y_ Zl pT ZN gX (rigOrder x0' Nl s1 s2 A1 A2 _ _ _ _ (r8 _) Ku xk (fun h=>by have:=hB1 h;simpa using this))).mono fun e W' ⟨he,hg,Nn⟩=>?_
 subst he
 have hlt:∀ x∈p0++(p1++(p2)),x.block<W.heap.size:=fun x hx=>Io.lt x (by simpa using hx)
 exact⟨_,rfl,Am.sZ (pa:=p0++(p1++(p2))) (pv:=[]) Io (fun _ _ _=>(trodAll_cons_mk (shut_bool Tryz.underlying4 _) trodAll_mk0))
  (fun sp hsp=>by
   have g2:=WideElems.Trod_stays (sp':=sp) laidOut (by kernel_rfl) (of_decide_eq_true (by kernel_rfl)) h2' (fun x hx=>Nn.same (hlt x (by simp[hx]))) (fun x hx=>hsp x (by simp[hx]))
   have g1:=WideElems.Trod_stays (sp':=sp) laidOut (by kernel_rfl) (of_decide_eq_true (by kernel_rfl)) h1' (fun x hx=>Nn.same (hlt x (by simp[hx]))) (fun x hx=>hsp x (by simp[hx]))
   have g0:=WideElems.Trod_stays (sp':=sp) laidOut (by kernel_rfl) (of_decide_eq_true (by kernel_rfl)) h0' (fun x hx=>Nn.same (hlt x (by simp[hx]))) (fun x hx=>hsp x (by simp[hx]))
   have:=trodAll_cons_mk g0 (trodAll_cons_mk g1 (trodAll_cons_mk g2 trodAll_mk0))
   rw[List.append_nil] at this
   exact this) (fun _ _=>rfl) (by simp)
  hg (ok_one (by kernel_rfl) rfl (okWide_bool_mk Tryz.underlying4 _))⟩
theorem over:Rows.rigOrderRow.holds Tryz.pinned (OpenSpec.ofChange Rows.rigOrderSpec):=
 OpenClaim.holds_of_wide 4 Tryz.f4 rfl rfl rfl rfl rfl rfl rfl ⟨rfl,rfl,rfl,rfl,rfl⟩ rfl rfl rfl rfl rfl (by kernel_rfl) Tryz.func4 (by kernel_rfl)
  (of_decide_eq_true (by kernel_rfl)) (by unfold Func.isWrapper;first | (rw[if_pos (by decide+kernel)];kernel_rfl) | (rw[if_neg (by decide+kernel)];exact⟨rfl,rfl⟩))
  (fun os started H enc _=>lifted os started H enc)
theorem proved:Rows.RigOrderSaid:=
 over
#print axioms proved
end Go.Proofs.YtbceiadaihphaaaGreat.rigOrder
