/-
  A part of the proof: contracts of inner functions.
-/
import Derived.Test.YtofmbmclopgldaaGreatAmI
set_option linter.unusedSimpArgs false
set_option linter.unusedVariables false
namespace Go.Am
open Go.RowKit
section
variable {P:Program} {Γ:br} {W w:World} {h:PT ak} {n:Nat}
theorem b9 {v:Value} {k y:Nat} {kd:IntKind} (hv:v = .int kd (k:Int)) (hk:k≤y) (code:BoundsCode) (w:World):(Instr.sliceBound v y code).run P w = .ok k w:=by
 subst hv
 have h1:(0:Int)≤k∧(k:Int)≤y:=⟨by omega,by omega⟩
 simp[Instr.sliceBound,asIntOf,h1,hk]
theorem gO {v v':Option Value} {d k:Nat} (hv:∀ x,v=some x→∃ x',v'=some x'∧aA Γ x x') (hn:v=none→v'=none) (e:dN d v=some k):
  (v'=none∧k=d)∨∃ kd,v'=some (.int kd (k:Int)):=by
 cases v with
 |none=>exact .inl ⟨hn rfl,by simpa [dN] using e.symm⟩
 |some x=>
  obtain⟨x',rfl,hr⟩:=hv x rfl
  obtain⟨kd,rfl⟩:=dU hr e
  exact .inr ⟨kd,rfl⟩
theorem fF {isSlice:Bool} {len cap l hh m:Nat} {low high max:Option Value}
  (hm:(max=none∧m=cap)∨∃ kd,max=some (.int kd (m:Int))) (hmc:m≤cap)
  (hhi:(high=none∧hh=len∧max=none)∨∃ kd,high=some (.int kd (hh:Int))) (Vw:hh≤m)
  (hlo:(low=none∧l=0)∨∃ kd,low=some (.int kd (l:Int))) (hlh:l≤hh) (w:World):
  (Instr.sliceBounds isSlice len cap low high max).run P w = .ok (l,hh,m) w:=by
 unfold Instr.sliceBounds
 rcases hm with ⟨rfl,rfl⟩ | ⟨kd,rfl⟩
 ·rcases hhi with ⟨rfl,rfl,_⟩ | ⟨kd',rfl⟩
  ·rcases hlo with ⟨rfl,rfl⟩ | ⟨R6,rfl⟩
   ·simp
   ·simp[b9 rfl hlh]
  ·rcases hlo with ⟨rfl,rfl⟩ | ⟨R6,rfl⟩
   ·simp[b9 rfl Vw]
   ·simp[b9 rfl Vw,b9 rfl hlh]
 ·rcases hhi with ⟨_,_,h3⟩ | ⟨kd',rfl⟩
  ·simp at h3
  ·rcases hlo with ⟨rfl,rfl⟩ | ⟨R6,rfl⟩
   ·simp[b9 rfl hmc,b9 rfl Vw]
   ·simp[b9 rfl hmc,b9 rfl Vw,b9 rfl hlh]
inductive qT (Γ:br):Option Value→Option Value→Prop
 |no:qT Γ none none
 |yes (v v':Value) (h:aA Γ v v'):qT Γ (some v) (some v')
theorem qT.spec {v v':Option Value} (h:qT Γ v v'):(∀ x,v=some x→∃ x',v'=some x'∧aA Γ x x')∧(v=none→v'=none):=by
 cases h with
 |no=>exact⟨fun x e=>by simp at e,fun _=>rfl⟩
 |yes a b hr=>exact⟨fun x e=>by obtain rfl:=Option.some.inj e;exact⟨b,rfl,hr⟩,fun e=>by simp at e⟩
theorem lF (hS:bh Γ W h w) {isSlice:Bool} {a a':Addr} {size len cap len' cap':Nat} (ha:Γ.addr' len cap a a') (hlen:len'=len) (hcap:Γ.cap a' len cap cap')
  {low high max low' high' max':Option Value} (hl:qT Γ low low') (hh:qT Γ high high') (hm:qT Γ max max') {e:Sem Value}
  (he:∀ l hi m,(Instr.sliceBounds isSlice len' cap' low' high' max').run P w = .ok (l,hi,m) w→e.run P w = .ok (.slice (some (if m=l then a' else a'.add (l*size))) (hi-l) (m-l)) w):
  aj P Γ W h n w (iX a size len cap low high max) e aA:=by
 subst hlen
 unfold iX
 dsimp only
 split
 ·obtain rfl:max'=none:=hm.spec.2 rfl
  split
  ·rename_i hi l hhi hlo
   have b1:=gO hl.spec.1 hl.spec.2 hlo
   have b2:=gO hh.spec.1 hh.spec.2 hhi
   cases hc:(Nat.ble l hi&&Nat.ble hi (cond (Nat.ble aB cap) len' cap)) with
   |false=>exact aj.fail
   |true=>
    simp only[Bool.and_eq_true] at hc
    have h1:=Nat.le_of_ble_eq_true hc.1
    have h2:=Nat.le_of_ble_eq_true hc.2
    simp only[cond_true]
    cases j9:Nat.ble aB cap with
    |true=>
     have eT:=Nat.le_of_ble_eq_true j9
     rw[j9] at h2
     simp only[cond_true] at h2 ⊢
     unfold br.cap at hcap
     rw[if_pos eT] at hcap
     obtain⟨aj5,N,hN,hroom⟩:=hcap
     cases zZ:Nat.beq cap (aB+size) with
     |false=>exact aj.fail
     |true=>
      simp only[cond_true]
      have hcs:=Nat.eq_of_beq_eq_true zZ
      have vI:=fF (P:=P) (isSlice:=isSlice) (len:=len') (cap:=cap') (l:=l) (hh:=hi) (m:=cap') (.inl ⟨rfl,rfl⟩) (Nat.le_refl _)
       (by rcases b2 with ⟨e1,e2⟩ | ⟨kd,e1⟩;exact .inl ⟨e1,e2,rfl⟩;exact .inr ⟨kd,e1⟩) (by omega) b1 h1 w
      have hrun:=he _ _ _ vI
      rw[hcs,Nat.add_sub_cancel_left] at hroom
      have hmul:l*size+(cap'-l)*size=cap'*size:=by rw[←Nat.add_mul];congr 1;omega
      refine aj.ok hS hrun (.slice _ _ _ _ _ ?_ ?_)
      ·by_cases Vu:l<len'
       ·rw[if_neg (by omega)]
        exact .inl ((ha.exact (.inl (by omega))).add _)
       ·refine .inr (.inl ⟨by omega,eT,?_,?_⟩)
        ·split
         ·exact(ha.spot' (by unfold aB at eT;omega))
         ·unfold Addr.add;split
          ·exact(ha.spot' (by unfold aB at eT;omega))
          ·rfl
        ·obtain⟨s,e⟩:=ha.block (by unfold aB at eT;omega)
         refine⟨s,?_⟩
         have:(if cap'=l then a' else a'.add (l*size)).block=a'.block:=by
          split
          ·rfl
          ·unfold Addr.add;split<;>rfl
         rw[this];exact e
      ·unfold br.cap
       rw[if_pos eT]
       refine⟨by omega,N,?_,?_⟩
       ·rw[←hN];congr 1
        split
        ·rfl
        ·unfold Addr.add;split<;>rfl
       ·rw[hcs,Nat.add_sub_cancel_left]
        split
        ·rename_i I2
         rw[I2,Nat.sub_self]
         omega
        ·have hoff:(a'.add (l*size)).off=a'.off+l*size:=by unfold Addr.add;split<;>simp_all
         rw[hoff]
         omega
    |false=>
     have eT: ¬ aB≤cap:=fun hle=>by rw[Nat.ble_eq_true_of_le hle] at j9;exact Bool.noConfusion j9
     rw[j9] at h2
     simp only[cond_false] at h2 ⊢
     unfold br.cap at hcap
     rw[if_neg eT] at hcap
     subst hcap
     have vI:=fF (P:=P) (isSlice:=isSlice) (len:=len') (cap:=cap') (l:=l) (hh:=hi) (m:=cap') (.inl ⟨rfl,rfl⟩) (Nat.le_refl _)
       (by rcases b2 with ⟨e1,e2⟩ | ⟨kd,e1⟩;exact .inl ⟨e1,e2,rfl⟩;exact .inr ⟨kd,e1⟩) h2 b1 h1 w
     rcases Nat.eq_zero_or_pos cap' with hc0 |hc0
     ·obtain rfl:l=0:=by omega
      obtain rfl:hi=0:=by omega
      subst hc0
      have hv:=he _ _ _ vI
      refine aj.ok hS hv ?_
      refine .slice _ _ _ _ _ (.inr (.inr ⟨by omega,by omega⟩)) ?_
      unfold br.cap
      rw[if_neg (by unfold aB;omega)]
     have ha:=ha.exact (.inr ⟨eT,hc0⟩)
     refine aj.ok hS (he _ _ _ vI) (.slice _ _ _ _ _ (.inl ?_) ?_)
     ·cases hq:Nat.beq cap' l with
      |true=>rw[if_pos (Nat.eq_of_beq_eq_true hq)];exact ha
      |false=>rw[if_neg (fun e=>by rw[e,Nat.beq_refl] at hq;exact Bool.noConfusion hq)];exact ha.add _
     ·unfold br.cap
      rw[if_neg (by omega)]
  ·exact aj.fail
 ·rename_i mv
  obtain⟨mv',rfl,hmr⟩:=hm.spec.1 mv rfl
  split
  ·rename_i m hi l hmm hhi hlo
   obtain⟨kdm,rfl⟩:=dU hmr hmm
   have b1:=gO hl.spec.1 hl.spec.2 hlo
   have b2:∃ kd,high'=some (.int kd (hi:Int)):=by
    cases high with
    |none=>simp[xp] at hhi
    |some x=>
     obtain⟨x',rfl,hr⟩:=hh.spec.1 x rfl
     obtain⟨kd,rfl⟩:=dU hr hhi
     exact⟨kd,rfl⟩
   cases hc:(Nat.ble l hi&&Nat.ble hi m&&Nat.ble m (cond (Nat.ble aB cap) len' cap)&&Nat.blt m aB&&cond (Nat.ble aB cap) (Nat.blt 0 len') true) with
   |false=>exact aj.fail
   |true=>
    simp only[Bool.and_eq_true] at hc
    have h1:=Nat.le_of_ble_eq_true hc.1.1.1.1
    have h2:=Nat.le_of_ble_eq_true hc.1.1.1.2
    have h3:=Nat.le_of_ble_eq_true hc.1.1.2
    have h4:m<aB:=Nat.blt_eq.mp hc.1.2
    simp only[cond_true]
    have R7:m≤cap'∧m-l<aB:=by
     unfold br.cap at hcap
     cases j9:Nat.ble aB cap with
     |true=>
      rw[if_pos (Nat.le_of_ble_eq_true j9)] at hcap
      rw[j9] at h3
      simp only[cond_true] at h3
      exact⟨by omega,by omega⟩
     |false=>
      have eT: ¬ aB≤cap:=fun hle=>by rw[Nat.ble_eq_true_of_le hle] at j9;exact Bool.noConfusion j9
      rw[if_neg eT] at hcap
      rw[j9] at h3
      simp only[cond_false] at h3
      subst hcap
      exact⟨h3,by omega⟩
    have vI:=fF (P:=P) (isSlice:=isSlice) (len:=len') (cap:=cap') (l:=l) (hh:=hi) (m:=m) (.inr ⟨kdm,rfl⟩) R7.1 (.inr b2) h2 b1 h1 w
    rcases Nat.eq_zero_or_pos cap with hcz |hcz
    ·have hnc: ¬ aB≤cap:=by unfold aB;omega
     have hb0:Nat.ble aB cap=false:=by
      cases hq:Nat.ble aB cap with
      |true=>exact absurd (Nat.le_of_ble_eq_true hq) hnc
      |false=>rfl
     rw[hb0] at h3
     simp only[cond_false] at h3
     have hm0:m=0:=by omega
     have hl0:l=0:=by omega
     have LA:hi=0:=by omega
     subst hm0 hl0 LA
     refine aj.ok hS (he _ _ _ vI) ?_
     refine .slice _ _ _ _ _ (.inr (.inr ⟨by omega,by omega⟩)) ?_
     unfold br.cap
     rw[if_neg (by unfold aB;omega)]
    have ha:=ha.exact (by
     have h5:=hc.2
     cases j9:Nat.ble aB cap with
     |true=>rw[j9] at h5;exact .inl (Nat.blt_eq.mp h5)
     |false=>exact .inr ⟨fun hle=>by rw[Nat.ble_eq_true_of_le hle] at j9;exact Bool.noConfusion j9,hcz⟩)
    refine aj.ok hS (he _ _ _ vI) (.slice _ _ _ _ _ (.inl ?_) ?_)
    ·cases hq:Nat.beq m l with
     |true=>rw[if_pos (Nat.eq_of_beq_eq_true hq)];exact ha
     |false=>rw[if_neg (fun e=>by rw[e,Nat.beq_refl] at hq;exact Bool.noConfusion hq)];exact ha.add _
    ·unfold br.cap
     rw[if_neg (by omega)]
  ·exact aj.fail
theorem z6 {t:TypeId} {x x':Value} {low high max low' high' max':Option Value} (hx:aA Γ x x') (hl:qT Γ low low') (hh:qT Γ high high') (hm:qT Γ max max'):
  fD P Γ (nK P t x low high max) (Instr.sliceAt t x' low' high' max') aA:=by
 intro W h n w hS
 unfold nK
 split
 ·rename_i len e a hd
  split
  ·rename_i i hi
   cases hx with
   |ptr _ a' ha=>
    cases hlt:Nat.blt len aB with
    |false=>exact aj.fail
    |true=>
     have hlt': ¬ aB≤len:=by have:len<aB:=Nat.blt_eq.mp hlt;omega
     refine lF (isSlice:=false) (len':=len) (cap':=len) hS (.inl ha) rfl (by unfold br.cap;rw[if_neg hlt']) hl hh hm fun l hi' m hb=>?_
     simp[Instr.sliceAt,az hd,Instr.sureAddr,hb,bz hi]
  ·exact aj.fail
 ·rename_i e a len cap hd
  split
  ·rename_i i hi
   cases hx with
   |slice _ a' _ _ c' ha hc=>
    refine lF (isSlice:=true) (len':=len) (cap':=c') hS ha rfl hc hl hh hm fun l hi' m hb=>?_
    simp only[Instr.sliceAt,Sem.run_bind,az hd,Result.andThen_ok,Instr.slice,hb,bz hi,Sem.run_pure]
    congr 3
    split<;>rfl
  ·exact aj.fail
 ·rename_i e len cap hd
  split
  ·rename_i i h1 h2 h3 hi
   cases hx
   cases hc:(Nat.beq len 0&&Nat.beq cap 0&&(max.isNone||high.isSome)) with
   |false=>exact aj.fail
   |true=>
    simp only[Bool.and_eq_true,Bool.or_eq_true] at hc
    obtain rfl:=Nat.eq_of_beq_eq_true hc.1.1
    obtain rfl:=Nat.eq_of_beq_eq_true hc.1.2
    have b1:=gO hl.spec.1 hl.spec.2 h3
    have b2:=gO hh.spec.1 hh.spec.2 h2
    have b3:=gO hm.spec.1 hm.spec.2 h1
    have vI:=fF (P:=P) (isSlice:=true) (len:=0) (cap:=0) (l:=0) (hh:=0) (m:=0) (low:=low') (high:=high') (max:=max') b3 (Nat.le_refl _)
     (by
      rcases b2 with ⟨e1,e2⟩ | ⟨kd,e1⟩
      ·refine .inl ⟨e1,rfl,?_⟩
       rcases hc.2 with hmn |hhs
       ·exact hm.spec.2 (by simpa using hmn)
       ·cases hh with
        |no=>simp at hhs
        |yes=>simp at e1
      ·exact .inr ⟨kd,e1⟩) (Nat.le_refl _) b1 (Nat.le_refl _) w
    refine aj.ok hS (b := .slice none 0 0) ?_ (.nilslice _ _)
    simp only[Instr.sliceAt,Sem.run_bind,az hd,Result.andThen_ok,Instr.slice,vI,bz hi]
    simp
  ·exact aj.fail
 ·exact aj.fail
end
end Go.Am
set_option linter.unusedSimpArgs false
set_option linter.unusedVariables false
namespace Go.Am
open Go.RowKit
section
variable {P:Program} {Γ:br} {W w:World} {h:PT ak} {n:Nat}
theorem wrap_small {k:Nat} (hk:k≤1048576):IntKind.i64.wrap (k:Int)=k:=by
 simp[IntKind.wrap,IntKind.bits,IntKind.signed];omega
theorem rZ {t:TypeId} {l c l' c':Value} (hl:aA Γ l l') (hc:aA Γ c c'):fD P Γ (fL P t l c) (Instr.makeSlice t l' c') aA:=by
 intro W h n w hS
 unfold fL
 split
 ·rename_i e kl kc hd Io hkc
  split
  ·rename_i i z hi hz
   obtain⟨xl,xB⟩:=cM hz
   obtain⟨kd,rfl⟩:=dU hl Io
   obtain⟨kd',rfl⟩:=dU hc hkc
   cases zZ:(Nat.ble kl kc&&Nat.ble kc 1048576&&Nat.ble i.bytes 65536&&Nat.beq z.cells.toList.length i.size&&Nat.blt 0 i.size) with
   |false=>exact aj.fail
   |true=>
    simp only[Bool.and_eq_true] at zZ
    have h1:=Nat.le_of_ble_eq_true zZ.1.1.1.1
    have h2:=Nat.le_of_ble_eq_true zZ.1.1.1.2
    have h3:=Nat.le_of_ble_eq_true zZ.1.1.2
    have h4:=Nat.eq_of_beq_eq_true zZ.1.2
    have h5:0<i.size:=Nat.blt_eq.mp zZ.2
    have hzs:z.cells.size=i.size:=by rw[←h4];simp
    simp only[cond_true]
    refine aj.new fun hn=>?_
    obtain⟨aS,hst,hb,_,iO⟩:=hS.j7 hn (rep z.cells.toList kc) ⟨rep z.cells.toList kc⟩ e (fun i v hv=>by simpa using ((xB Γ).cells.rep kc).get hv)
    have hlt:kc<aB:=by unfold aB;omega
    refine⟨aS,_,pure (.slice (some ⟨w.heap.size,0,none⟩) kl kc),hst,?_,aj.ok iO rfl (.slice _ _ _ _ _ (.inl ⟨rfl,rfl,0,by simpa using hb,by simp⟩) (by unfold br.cap;rw[if_neg (by omega)]))⟩
    have w1:IntKind.i64.wrap (kl:Int)=kl:=wrap_small (by omega)
    have w2:IntKind.i64.wrap (kc:Int)=kc:=wrap_small h2
    have hbytes:i.bytes*kc≤68719476736:=Nat.le_trans (Nat.mul_le_mul h3 h2) (by omega)
    have Vx:(i.bytes:Int)*(kc:Int)≤68719476736:=by
     have:=Int.ofNat_le.2 hbytes
     rw[Int.natCast_mul] at this
     exact this
    have t2:(decide ((kc:Int)<0)||decide ((i.bytes:Int)*(kc:Int)>2^48))=false:=by
     simp only[Bool.or_eq_false_iff,decide_eq_false_iff_not];omega
    have adJ:((decide ((kc:Int)<0)||decide ((i.bytes:Int)*(kc:Int)>2^48))=true∨(kl:Int)<0∨(kl:Int)>kc)=False:=by
     rw[t2];simp;omega
    have CF:kc*i.size=0↔kc=0:=by
     constructor
     ·intro hh;rcases Nat.mul_eq_zero.1 hh with hh |hh<;>omega
     ·intro hh;subst hh;simp
    have hrow:(Array.range (kc*i.size)).map (fun j=>(if kc*i.size=0 then (#[]:Array Value) else z.cells)[j%(if kc*i.size=0 then (#[]:Array Value) else z.cells).size]!)=⟨rep z.cells.toList kc⟩:=by
     by_cases h0:kc=0
     ·subst h0;simp[rep,Array.range]
     ·have: ¬ kc*i.size=0:=fun hh=>h0 (CF.1 hh)
      simp only[this,if_false]
      rw[←hzs]
      exact mL z.cells kc (by omega)
    unfold Instr.makeSlice
    simp only[Sem.run_bind,az hd,Result.andThen_ok,asInt,asIntOf,Sem.run_pure,dr hi,w1,w2]
    have hfalse: ¬ ((decide ((kc:Int)<0)||decide ((i.bytes:Int)*(kc:Int)>2^48)||decide ((kl:Int)<0)||decide ((kl:Int)>kc))=true):=by
     rw[t2];simp;omega
    rw[if_neg hfalse]
    simp only[Sem.run_bind,run_askRoom,Result.andThen_ok,bz hi,Int.toNat_natCast,Sem.run_ite,Sem.run_pure,xl,Result.andThen_ite]
    by_cases h0:kc*i.size=0
    ·simp only[h0,if_true] at hrow ⊢
     simp only[Go.newRow,Sem.run_bind,run_newObj,Result.andThen_ok,Sem.run_pure,hrow]
     rfl
    ·simp only[h0,if_false] at hrow ⊢
     simp only[Go.newRow,Sem.run_bind,run_newObj,Result.andThen_ok,Sem.run_pure,hrow]
     rfl
  ·exact aj.fail
 ·exact aj.fail
def ju (h:PT ak) (size:Nat) (x:Value) (k:Nat) (l:List Value):Prop:=
 match x with
 | .slice none m _=>k=m∧l=[]
 | .slice (some a) m _=>k=m∧∃ c ro,h.get a.block=some (.cells c ro)∧aP c a.off (m*size)=some l
 | .string s=>k=s.size∧l=s.data.toList.map fun b => .int .u8 b.toNat
 | _=>False
theorem ju.nil {size:Nat} {x:Value} {l:List Value} (hf:ju h size x 0 l):l=[]:=by
 unfold ju at hf
 split at hf
 ·exact hf.2
 ·obtain⟨h0,c,ro,_,hr⟩:=hf
  subst h0
  rw[Nat.zero_mul] at hr
  simp only[aP,Option.some.injEq] at hr
  exact hr.symm
 ·rename_i s
  obtain⟨h0,rfl⟩:=hf
  have:s.data.toList.length=0:=by rw[Array.length_toList];exact h0.symm
  rw[List.eq_nil_of_length_eq_zero this];rfl
 ·exact hf.elim
theorem r_ {α β:Type} {size:Nat} {x:Value} {f:Nat×List Value→AP α} {e:Sem β} {R:br→α→β→Prop}
  (hk:∀ k l,ju h size x k l→aj P Γ W h n w (f (k,l)) e R):aj P Γ W h n w ((iZ size x).bind f) e R:=by
 unfold iZ
 split
 ·exact hk _ _ ⟨rfl,rfl⟩
 ·rename_i a m cap
  refine aj.get fun B hB=>?_
  cases B with
  |map=>exact aj.fail
  |iter=>exact aj.fail
  |loop=>exact aj.fail
  |deferred=>exact aj.fail
  |cells c ro=>
   dsimp only
   cases hr:aP c a.off (m*size) with
   |none=>exact aj.fail
   |some l=>exact hk _ _ ⟨rfl,c,ro,hB,hr⟩
 ·exact hk _ _ ⟨rfl,rfl⟩
 ·exact aj.fail
theorem ju.run {size:Nat} {x x':Value} {k:Nat} {l:List Value} (hS:bh Γ W h w) (hx:aA Γ x x') (hf:ju h size x k l):
  ∃ l',aF Γ l l'∧(Builtin.firstCells size k x').run P w = .ok ⟨l'⟩ w∧∀ w,(Builtin.lenOf x').run P w = .ok k w:=by
 unfold ju at hf
 split at hf
 ·obtain⟨rfl,rfl⟩:=hf
  cases hx
  exact⟨[],.nil,rfl,fun _=>rfl⟩
 ·obtain⟨rfl,c,ro,hb,hr⟩:=hf
  cases hx with
  |slice a a' _ _ _ ha hc=>
   obtain⟨l',hl,hrun⟩:=nu (P:=P) hS hb ha rfl hr
   exact⟨l',hl,hrun,fun _=>rfl⟩
 ·obtain⟨rfl,rfl⟩:=hf
  cases hx
  rename_i s
  refine⟨_,aF.vA _ (fun v hv=>?_),?_,fun _=>rfl⟩
  ·simp only[List.mem_map] at hv
   obtain⟨b,_,rfl⟩:=hv
   exact .int _ _
  ·simp only[Builtin.firstCells,Sem.run_pure]
   congr 1
   have:s.extract 0 s.size=s:=by simp
   rw[this]
   apply Array.ext'
   simp
 ·exact hf.elim
theorem CJ (newLen c:Nat) (h:c≤1048576):Builtin.growBy newLen 4 c≤16777216:=by
 simp only[Builtin.growBy]
 repeat' split
 all_goals omega
theorem nextslicecap_le {need c:Nat} (hn:need≤1048576) (hc:c<need):Builtin.nextslicecap need c≤16777216:=by
 unfold Builtin.nextslicecap
 split
 ·omega
 ·split
  ·omega
  ·exact CJ _ _ (by omega)
end
end Go.Am
