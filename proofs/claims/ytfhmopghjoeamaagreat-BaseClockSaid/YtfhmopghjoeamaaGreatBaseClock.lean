/-
  The law leapfroglaw23.BaseClock holds: the function returns true in every world, for any list of steps.
-/
import Derived.Test.YtfhmopghjoeamaaGreatRows
import Derived.WalkKit
import Derived.ProofKit
import Derived.OpenShut
import Derived.Test.YtfhmopghjoeamaaGreatAmU5
import Derived.Test.YtfhmopghjoeamaaGreatBL
import Derived.Test.YtfhmopghjoeamaaGreatBQ0
namespace Go.Proofs.YtfhmopghjoeamaaGreat.baseClock
open Go.ChangeShapes Go.WideShapes Go.ChangeAt Go.RowKit Go.Am
theorem laidOut:laidOutB Tryz.prog=true:=by kernel_rfl
theorem own:ownKnob Tryz.prog.godebug=none:=by kernel_rfl
theorem KI:oL Tryz.prog 8 5=some [.int .u8]:=by kernel_rfl
theorem Gj:Tryz.prog.cellsOf 5=1:=by kernel_rfl
theorem Gk:0<Tryz.prog.bytesOf 5:=of_decide_eq_true (by kernel_rfl)
set_option maxRecDepth 100000 in
theorem lifted (os:Os) (started:os.Started) (H:Type) (enc:TypeId×Value→H):
  ReturnsInHanded {} Tryz.checked os 3 .any (Rows.baseClockSpec.pre6 enc Tryz.prog Tryz.f3 Rows.baseClockRow.domain false) (Rows.baseClockSpec.post enc Tryz.prog Tryz.f3 false true false false):=by
 refine returnsInHanded_of_change_sized (C:=Tryz.checked) own started (by kernel_rfl) Tryz.func3
  (ChangeSpec.witness6 (enc:=enc) (C:=Tryz.checked) false ⟨#[],#[.slice none 0 0],[]⟩ 8 (by kernel_rfl) (by kernel_rfl) (by kernel_rfl) (by kernel_rfl)) ?_
 intro W base args ds gs before El hW hcnd hsz _
 have hval:∀ (j:Nat) t v,Tryz.f3.params[j]? = some t→args[j]? = some v→Value.okWide Tryz.prog W .any base t v:=El
 have Ry:=hW
 obtain⟨p,q,J6,hV,rfl,hfz,hnd⟩:=hW
 have hA:DataW.TrodAll enc Tryz.prog W 0 (fun _=>true) true Tryz.f3.params.toList args.toList ds p:=J6
 have AY:(DataW.weightsEach Tryz.prog (Tryz.f3.params.toList++[]) (ds++gs)).all (·≤reachBytes)=true:=hsz
 rw[Tryz.params3] at hA hval AY
 obtain⟨v0,vs0,d0,ds0,p0,q0,Rz,rfl,rfl,h0,r0⟩:=trodAll_cons hA
 obtain⟨rfl,rfl,rfl⟩:=trodAll_nil r0
 obtain rfl:args=#[v0]:=by cases args;simp_all
 obtain⟨rfl,rfl⟩:=trodVars_none hV
 have wE:∀ n∈d0.weights Tryz.prog 22,n≤reachBytes:=fun n hn=>by
  have:=List.all_eq_true.1 AY n (DataW.weights_mem_each (j:=0) rfl rfl n hn)
  simpa using this
 have RA:=hval 0 22 v0 rfl rfl
 clear J6 El hsz AY hval
 have Zc:=h0
 obtain⟨x0,s0,A0,RB,RC,hl0,J6⟩:=xP Tryz.underlying22 KI Gj.symm (by decide) Gk (v0:=[]) (fun k v h=>by simp at h) RA h0 wE
 simp only[List.append_nil] at Ry
 have hrel:aB (ew ([]++x0)) [s0] [v0] := .cons _ _ _ _ RC .nil
 refine(vo Rx ct RB hrel (Gh s0 A0 _ _ _ (sY _) J6)).mono fun e W' ⟨he,hg,tj⟩=>?_
 subst he
 have hlt:∀ x∈p0,x.block<W.heap.size:=fun x hx=>Ry.lt x (by simpa using hx)
 exact⟨_,rfl,Am.o9 (pa:=p0) (pv:=[]) Ry (fun _ _ _=>(trodAll_cons_mk (shut_bool Tryz.underlying4 _) trodAll_mk0))
  (fun sp hsp=>by
   have g0:=WideElems.Trod_stays (sp':=sp) laidOut (by kernel_rfl) (of_decide_eq_true (by kernel_rfl)) Zc (fun x hx=>tj.same (hlt x (by simp[hx]))) (fun x hx=>hsp x (by simp[hx]))
   have:=trodAll_cons_mk g0 trodAll_mk0
   rw[List.append_nil] at this
   exact this) (fun _ _=>rfl) (by simp)
  hg (ok_one (by kernel_rfl) rfl (okWide_bool_mk Tryz.underlying4 _))⟩
theorem over:Rows.baseClockRow.holds Tryz.pinned (OpenSpec.ofChange Rows.baseClockSpec):=
 OpenClaim.holds_of_wide 3 Tryz.f3 rfl rfl rfl rfl rfl rfl rfl ⟨rfl,rfl,rfl,rfl,rfl⟩ rfl rfl rfl rfl rfl (by kernel_rfl) Tryz.func3 (by kernel_rfl)
  (of_decide_eq_true (by kernel_rfl)) (by unfold Func.isWrapper;first | (rw[if_pos (by decide+kernel)];kernel_rfl) | (rw[if_neg (by decide+kernel)];exact⟨rfl,rfl⟩))
  (fun os started H enc _=>lifted os started H enc)
theorem proved:Rows.BaseClockSaid:=
 over
#print axioms proved
end Go.Proofs.YtfhmopghjoeamaaGreat.baseClock
