/-
A part.
-/
import Derived.Test.YtofmbmclopgldaaGreatAmI
set_option linter.all false
namespace Go.Am
open Go.RowKit
section
variable {P:Program} {Γ:bL} {W w:World} {h:PT aj} {n:Nat}
theorem cP{v:Value}{k y:Nat}{kd:IntKind}(hv:v = .int kd (k:Int))(hk:k≤y)(code:BoundsCode)(w:World):(Instr.sliceBound v y code).run P w = .ok k w:=by
 subst hv;have h1:(0:Int)≤k∧(k:Int)≤y:=⟨by omega,by omega⟩;simp[Instr.sliceBound,asIntOf,h1,hk]
theorem jy{v v':Option Value}{d k:Nat}(hv:∀ x,v=some x→∃ x',v'=some x'∧aD Γ x x')(hn:v=none→v'=none)(e:fq d v=some k):
  (v'=none∧k=d)∨∃ kd,v'=some (.int kd (k:Int)):=by
 cases v with
 |none=>exact .inl ⟨hn rfl,by simpa [fq] using e.symm⟩
 |some x=>
  obtain⟨x',rfl,hr⟩:=hv x rfl;obtain⟨kd,rfl⟩:=fO hr e;exact .inr ⟨kd,rfl⟩
theorem iB{isSlice:Bool}{len cap l hh m:Nat}{low high max:Option Value}
  (hm:(max=none∧m=cap)∨∃ kd,max=some (.int kd (m:Int))) (hmc:m≤cap)
  (hhi:(high=none∧hh=len∧max=none)∨∃ kd,high=some (.int kd (hh:Int))) (hhm:hh≤m)
  (hlo:(low=none∧l=0)∨∃ kd,low=some (.int kd (l:Int))) (hlh:l≤hh) (w:World):
  (Instr.sliceBounds isSlice len cap low high max).run P w = .ok (l,hh,m) w:=by
 unfold Instr.sliceBounds
 rcases hm with ⟨rfl,rfl⟩ | ⟨kd,rfl⟩
 ·rcases hhi with ⟨rfl,rfl,_⟩ | ⟨kd',rfl⟩
  ·rcases hlo with ⟨rfl,rfl⟩ | ⟨acG,rfl⟩
   ·simp
   ·simp[cP rfl hlh]
  ·rcases hlo with ⟨rfl,rfl⟩ | ⟨acG,rfl⟩
   ·simp[cP rfl hhm]
   ·simp[cP rfl hhm,cP rfl hlh]
 ·rcases hhi with ⟨_,_,h3⟩ | ⟨kd',rfl⟩
  ·simp at h3
  ·rcases hlo with ⟨rfl,rfl⟩ | ⟨acG,rfl⟩
   ·simp[cP rfl hmc,cP rfl hhm]
   ·simp[cP rfl hmc,cP rfl hhm,cP rfl hlh]
inductive vB (Γ:bL):Option Value→Option Value→Prop
 |no:vB Γ none none
 |yes (v v':Value) (h:aD Γ v v'):vB Γ (some v) (some v')
theorem vB.spec{v v':Option Value}(h:vB Γ v v'):(∀ x,v=some x→∃ x',v'=some x'∧aD Γ x x')∧(v=none→v'=none):=by
 cases h with
 |no=>exact⟨fun x e=>by simp at e,fun _=>rfl⟩
 |yes a b hr=>exact⟨fun x e=>by obtain rfl:=Option.some.inj e;exact⟨b,rfl,hr⟩,fun e=>by simp at e⟩
theorem oG(hS:bK Γ W h w){isSlice:Bool}{a a':Addr}{size len cap len' cap':Nat}(ha:Γ.addr' len cap a a')(hlen:len'=len)(hcap:Γ.cap a' len cap cap')
  {low high max low' high' max':Option Value} (hl:vB Γ low low') (hh:vB Γ high high') (hm:vB Γ max max') {e:Sem Value}
  (he:∀ l hi m,(Instr.sliceBounds isSlice len' cap' low' high' max').run P w = .ok (l,hi,m) w→e.run P w = .ok (.slice (some (if m=l then a' else a'.add (l*size))) (hi-l) (m-l)) w):
  ak P Γ W h n w (kI a size len cap low high max) e aD:=by
 subst hlen;unfold kI;dsimp only;split
 ·obtain rfl:max'=none:=hm.spec.2 rfl;split
  ·rename_i hi l hhi hlo;have b1:=jy hl.spec.1 hl.spec.2 hlo;have b2:=jy hh.spec.1 hh.spec.2 hhi;cases hc:(Nat.ble l hi&&Nat.ble hi (cond (Nat.ble aA cap) len' cap)) with
   |false=>exact ak.fail
   |true=>
    simp only[Bool.and_eq_true] at hc;have h1:=Nat.le_of_ble_eq_true hc.1;have h2:=Nat.le_of_ble_eq_true hc.2;simp only[cond_true];cases nj:Nat.ble aA cap with
    |true=>
     have gX:=Nat.le_of_ble_eq_true nj;rw[nj] at h2;simp only[cond_true] at h2 ⊢;unfold bL.cap at hcap;rw[if_pos gX] at hcap;obtain⟨aCC,N,hN,hroom⟩:=hcap;cases FU:Nat.beq cap (aA+size) with
     |false=>exact ak.fail
     |true=>
      simp only[cond_true];have hcs:=Nat.eq_of_beq_eq_true FU;have Bj:=iB (P:=P) (isSlice:=isSlice) (len:=len') (cap:=cap') (l:=l) (hh:=hi) (m:=cap') (.inl ⟨rfl,rfl⟩) (Nat.le_refl _)
       (by rcases b2 with ⟨e1,e2⟩ | ⟨kd,e1⟩;exact .inl ⟨e1,e2,rfl⟩;exact .inr ⟨kd,e1⟩) qJ b1 h1 w
      have hrun:=he _ _ _ Bj;rw[hcs,Nat.add_sub_cancel_left] at hroom;have hmul:l*size+(cap'-l)*size=cap'*size:=by rw[←Nat.add_mul];congr 1;omega
      refine ak.ok hS hrun (.slice _ _ _ _ _ ?_ ?_)
      ·by_cases zR:l<len'
       ·rw[if_neg qJ];exact .inl ((ha.exact (.inl qJ)).add _)
       ·refine .inr (.inl ⟨by omega,gX,?_,?_⟩)
        ·split
         ·exact(ha.spot' (by unfold aA at gX;omega))
         ·unfold Addr.add;split
          ·exact(ha.spot' (by unfold aA at gX;omega))
          ·rfl
        ·obtain⟨s,e⟩:=ha.block (by unfold aA at gX;omega);refine⟨s,?_⟩;have:(if cap'=l then a' else a'.add (l*size)).block=a'.block:=by
          split
          ·rfl
          ·unfold Addr.add;split<;>rfl
         rw[this];exact e
      ·unfold bL.cap;rw[if_pos gX];refine⟨by omega,N,?_,?_⟩
       ·rw[←hN];congr 1;split
        ·rfl
        ·unfold Addr.add;split<;>rfl
       ·rw[hcs,Nat.add_sub_cancel_left];split
        ·rename_i LM;rw[LM,Nat.sub_self];omega
        ·have hoff:(a'.add (l*size)).off=a'.off+l*size:=by unfold Addr.add;split<;>simp_all
         rw[hoff];omega
    |false=>
     have gX: ¬ aA≤cap:=fun hle=>by rw[Nat.ble_eq_true_of_le hle] at nj;exact Bool.noConfusion nj
     rw[nj] at h2;simp only[cond_false] at h2 ⊢;unfold bL.cap at hcap;rw[if_neg gX] at hcap;subst hcap;have Bj:=iB (P:=P) (isSlice:=isSlice) (len:=len') (cap:=cap') (l:=l) (hh:=hi) (m:=cap') (.inl ⟨rfl,rfl⟩) (Nat.le_refl _)
       (by rcases b2 with ⟨e1,e2⟩ | ⟨kd,e1⟩;exact .inl ⟨e1,e2,rfl⟩;exact .inr ⟨kd,e1⟩) h2 b1 h1 w
     rcases Nat.eq_zero_or_pos cap' with hc0 |hc0
     ·obtain rfl:l=0:=by omega
      obtain rfl:hi=0:=by omega
      subst hc0;have hv:=he _ _ _ Bj;refine ak.ok hS hv ?_;refine .slice _ _ _ _ _ (.inr (.inr ⟨by omega,by omega⟩)) ?_;unfold bL.cap;rw[if_neg (by unfold aA;omega)]
     have ha:=ha.exact (.inr ⟨gX,hc0⟩);refine ak.ok hS (he _ _ _ Bj) (.slice _ _ _ _ _ (.inl ?_) ?_)
     ·cases hq:Nat.beq cap' l with
      |true=>rw[if_pos (Nat.eq_of_beq_eq_true hq)];exact ha
      |false=>rw[if_neg (fun e=>by rw[e,Nat.beq_refl] at hq;exact Bool.noConfusion hq)];exact ha.add _
     ·unfold bL.cap;rw[if_neg qJ]
  ·exact ak.fail
 ·rename_i mv;obtain⟨mv',rfl,hmr⟩:=hm.spec.1 mv rfl;split
  ·rename_i m hi l hmm hhi hlo;obtain⟨kdm,rfl⟩:=fO hmr hmm;have b1:=jy hl.spec.1 hl.spec.2 hlo;have b2:∃ kd,high'=some (.int kd (hi:Int)):=by
    cases high with
    |none=>simp[CW] at hhi
    |some x=>
     obtain⟨x',rfl,hr⟩:=hh.spec.1 x rfl;obtain⟨kd,rfl⟩:=fO hr hhi;exact⟨kd,rfl⟩
   cases hc:(Nat.ble l hi&&Nat.ble hi m&&Nat.ble m (cond (Nat.ble aA cap) len' cap)&&Nat.blt m aA&&cond (Nat.ble aA cap) (Nat.blt 0 len') true) with
   |false=>exact ak.fail
   |true=>
    simp only[Bool.and_eq_true] at hc;have h1:=Nat.le_of_ble_eq_true hc.1.1.1.1;have h2:=Nat.le_of_ble_eq_true hc.1.1.1.2;have h3:=Nat.le_of_ble_eq_true hc.1.1.2;have h4:m<aA:=Nat.blt_eq.mp hc.1.2;simp only[cond_true];have acH:m≤cap'∧m-l<aA:=by
     unfold bL.cap at hcap;cases nj:Nat.ble aA cap with
     |true=>
      rw[if_pos (Nat.le_of_ble_eq_true nj)] at hcap;rw[nj] at h3;simp only[cond_true] at h3;exact⟨by omega,by omega⟩
     |false=>
      have gX: ¬ aA≤cap:=fun hle=>by rw[Nat.ble_eq_true_of_le hle] at nj;exact Bool.noConfusion nj
      rw[if_neg gX] at hcap;rw[nj] at h3;simp only[cond_false] at h3;subst hcap;exact⟨h3,by omega⟩
    have Bj:=iB (P:=P) (isSlice:=isSlice) (len:=len') (cap:=cap') (l:=l) (hh:=hi) (m:=m) (.inr ⟨kdm,rfl⟩) acH.1 (.inr b2) h2 b1 h1 w
    rcases Nat.eq_zero_or_pos cap with hcz |hcz
    ·have hnc: ¬ aA≤cap:=by unfold aA;omega
     have hb0:Nat.ble aA cap=false:=by
      cases hq:Nat.ble aA cap with
      |true=>exact absurd (Nat.le_of_ble_eq_true hq) hnc
      |false=>rfl
     rw[hb0] at h3;simp only[cond_false] at h3;have hm0:m=0:=by omega
     have hl0:l=0:=by omega
     have JL:hi=0:=by omega
     subst hm0 hl0 JL;refine ak.ok hS (he _ _ _ Bj) ?_;refine .slice _ _ _ _ _ (.inr (.inr ⟨by omega,by omega⟩)) ?_;unfold bL.cap;rw[if_neg (by unfold aA;omega)]
    have ha:=ha.exact (by
     have h5:=hc.2;cases nj:Nat.ble aA cap with
     |true=>rw[nj] at h5;exact .inl (Nat.blt_eq.mp h5)
     |false=>exact .inr ⟨fun hle=>by rw[Nat.ble_eq_true_of_le hle] at nj;exact Bool.noConfusion nj,hcz⟩)
    refine ak.ok hS (he _ _ _ Bj) (.slice _ _ _ _ _ (.inl ?_) ?_)
    ·cases hq:Nat.beq m l with
     |true=>rw[if_pos (Nat.eq_of_beq_eq_true hq)];exact ha
     |false=>rw[if_neg (fun e=>by rw[e,Nat.beq_refl] at hq;exact Bool.noConfusion hq)];exact ha.add _
    ·unfold bL.cap;rw[if_neg qJ]
  ·exact ak.fail
theorem FV{t:TypeId}{x x':Value}{low high max low' high' max':Option Value}(hx:aD Γ x x')(hl:vB Γ low low')(hh:vB Γ high high')(hm:vB Γ max max'):
  iA P Γ (qQ P t x low high max) (Instr.sliceAt t x' low' high' max') aD:=by
 intro W h n w hS;unfold qQ;split
 ·rename_i len e a hd;split
  ·rename_i i hi;cases hx with
   |ptr _ a' ha=>
    cases hlt:Nat.blt len aA with
    |false=>exact ak.fail
    |true=>
     have hlt': ¬ aA≤len:=by have:len<aA:=Nat.blt_eq.mp hlt;omega
     refine oG (isSlice:=false) (len':=len) (cap':=len) hS (.inl ha) rfl (by unfold bL.cap;rw[if_neg hlt']) hl hh hm fun l hi' m hb=>?_;simp[Instr.sliceAt,aE hd,Instr.sureAddr,hb,bS hi]
  ·exact ak.fail
 ·rename_i e a len cap hd;split
  ·rename_i i hi;cases hx with
   |slice _ a' _ _ c' ha hc=>
    refine oG (isSlice:=true) (len':=len) (cap':=c') hS ha rfl hc hl hh hm fun l hi' m hb=>?_;simp only[Instr.sliceAt,Sem.run_bind,aE hd,Result.andThen_ok,Instr.slice,hb,bS hi,Sem.run_pure]
    congr 3
    split<;>rfl
  ·exact ak.fail
 ·rename_i e len cap hd;split
  ·rename_i i h1 h2 h3 hi;cases hx;cases hc:(Nat.beq len 0&&Nat.beq cap 0&&(max.isNone||high.isSome)) with
   |false=>exact ak.fail
   |true=>
    simp only[Bool.and_eq_true,Bool.or_eq_true] at hc;obtain rfl:=Nat.eq_of_beq_eq_true hc.1.1;obtain rfl:=Nat.eq_of_beq_eq_true hc.1.2;have b1:=jy hl.spec.1 hl.spec.2 h3;have b2:=jy hh.spec.1 hh.spec.2 h2;have b3:=jy hm.spec.1 hm.spec.2 h1;have Bj:=iB (P:=P) (isSlice:=true) (len:=0) (cap:=0) (l:=0) (hh:=0) (m:=0) (low:=low') (high:=high') (max:=max') b3 (Nat.le_refl _)
     (by
      rcases b2 with ⟨e1,e2⟩ | ⟨kd,e1⟩
      ·refine .inl ⟨e1,rfl,?_⟩
       rcases hc.2 with hmn |hhs
       ·exact hm.spec.2 (by simpa using hmn)
       ·cases hh with
        |no=>simp at hhs
        |yes=>simp at e1
      ·exact .inr ⟨kd,e1⟩) (Nat.le_refl _) b1 (Nat.le_refl _) w
    refine ak.ok hS (b := .slice none 0 0) ?_ (.nilslice _ _);simp only[Instr.sliceAt,Sem.run_bind,aE hd,Result.andThen_ok,Instr.slice,Bj,bS hi];simp
  ·exact ak.fail
 ·exact ak.fail
end
end Go.Am
namespace Go.Am
open Go.RowKit
section
variable {P:Program} {Γ:bL} {W w:World} {h:PT aj} {n:Nat}
theorem wrap_small{k:Nat}(hk:k≤1048576):IntKind.i64.wrap (k:Int)=k:=by
 simp[IntKind.wrap,IntKind.bits,IntKind.signed];omega
theorem wZ{t:TypeId}{l c l' c':Value}(hl:aD Γ l l')(hc:aD Γ c c'):iA P Γ (iF P t l c) (Instr.makeSlice t l' c') aD:=by
 intro W h n w hS;unfold iF;split
 ·rename_i e kl kc hd Rv hkc;split
  ·rename_i i z hi hz;obtain⟨CQ,Dc⟩:=dS hz;obtain⟨kd,rfl⟩:=fO hl Rv;obtain⟨kd',rfl⟩:=fO hc hkc;cases FU:(Nat.ble kl kc&&Nat.ble kc 1048576&&Nat.ble i.bytes 65536&&Nat.beq z.cells.toList.length i.size&&Nat.blt 0 i.size) with
   |false=>exact ak.fail
   |true=>
    simp only[Bool.and_eq_true] at FU;have h1:=Nat.le_of_ble_eq_true FU.1.1.1.1;have h2:=Nat.le_of_ble_eq_true FU.1.1.1.2;have h3:=Nat.le_of_ble_eq_true FU.1.1.2;have h4:=Nat.eq_of_beq_eq_true FU.1.2;have h5:0<i.size:=Nat.blt_eq.mp FU.2;have hzs:z.cells.size=i.size:=by rw[←h4];simp
    simp only[cond_true];refine ak.new fun hn=>?_;obtain⟨aY,hst,hb,_,ku⟩:=hS.nh hn (rep z.cells.toList kc) ⟨rep z.cells.toList kc⟩ e (fun i v hv=>by simpa using ((Dc Γ).cells.rep kc).get hv);have hlt:kc<aA:=by unfold aA;omega
    refine⟨aY,_,pure (.slice (some ⟨w.heap.size,0,none⟩) kl kc),hst,?_,ak.ok ku rfl (.slice _ _ _ _ _ (.inl ⟨rfl,rfl,0,by simpa using hb,by simp⟩) (by unfold bL.cap;rw[if_neg qJ]))⟩;have w1:IntKind.i64.wrap (kl:Int)=kl:=wrap_small qJ;have w2:IntKind.i64.wrap (kc:Int)=kc:=wrap_small h2;have hbytes:i.bytes*kc≤68719476736:=Nat.le_trans (Nat.mul_le_mul h3 h2) qJ;have ahH:(i.bytes:Int)*(kc:Int)≤68719476736:=by
     have:=Int.ofNat_le.2 hbytes;rw[Int.natCast_mul] at this;exact this
    have t2:(decide ((kc:Int)<0)||decide ((i.bytes:Int)*(kc:Int)>2^48))=false:=by
     simp only[Bool.or_eq_false_iff,decide_eq_false_iff_not];omega
    have w9:((decide ((kc:Int)<0)||decide ((i.bytes:Int)*(kc:Int)>2^48))=true∨(kl:Int)<0∨(kl:Int)>kc)=False:=by
     rw[t2];simp;omega
    have CP:kc*i.size=0↔kc=0:=by
     constructor
     ·intro hh;rcases Nat.mul_eq_zero.1 hh with hh |hh<;>omega
     ·intro hh;subst hh;simp
    have hrow:(Array.range (kc*i.size)).map (fun j=>(if kc*i.size=0 then (#[]:Array Value) else z.cells)[j%(if kc*i.size=0 then (#[]:Array Value) else z.cells).size]!)=⟨rep z.cells.toList kc⟩:=by
     by_cases h0:kc=0
     ·subst h0;simp[rep,Array.range]
     ·have: ¬ kc*i.size=0:=fun hh=>h0 (CP.1 hh);simp only[this,if_false];rw[←hzs];exact p_ z.cells kc qJ
    unfold Instr.makeSlice;simp only[Sem.run_bind,aE hd,Result.andThen_ok,asInt,asIntOf,Sem.run_pure,eO hi,w1,w2];have hfalse: ¬ ((decide ((kc:Int)<0)||decide ((i.bytes:Int)*(kc:Int)>2^48)||decide ((kl:Int)<0)||decide ((kl:Int)>kc))=true):=by
     rw[t2];simp;omega
    rw[if_neg hfalse];simp only[Sem.run_bind,run_askRoom,Result.andThen_ok,bS hi,Int.toNat_natCast,Sem.run_ite,Sem.run_pure,CQ,Result.andThen_ite];by_cases h0:kc*i.size=0
    ·simp only[h0,if_true] at hrow ⊢;simp only[Go.newRow,Sem.run_bind,run_newObj,Result.andThen_ok,Sem.run_pure,hrow];rfl
    ·simp only[h0,if_false] at hrow ⊢;simp only[Go.newRow,Sem.run_bind,run_newObj,Result.andThen_ok,Sem.run_pure,hrow];rfl
  ·exact ak.fail
 ·exact ak.fail
def lu(h:PT aj)(size:Nat)(x:Value)(k:Nat)(l:List Value):Prop:=
 match x with
 | .slice none m _=>k=m∧l=[]
 | .slice (some a) m _=>k=m∧∃ c ro,h.get a.block=some (.cells c ro)∧aW c a.off (m*size)=some l
 | .string s=>k=s.size∧l=s.data.toList.map fun b => .int .u8 b.toNat
 | _=>False
theorem lu.nil{size:Nat}{x:Value}{l:List Value}(hf:lu h size x 0 l):l=[]:=by
 unfold lu at hf;split at hf
 ·exact hf.2
 ·obtain⟨h0,c,ro,_,hr⟩:=hf;subst h0;rw[Nat.zero_mul] at hr;simp only[aW,Option.some.injEq] at hr;exact hr.symm
 ·rename_i s;obtain⟨h0,rfl⟩:=hf;have:s.data.toList.length=0:=by rw[Array.length_toList];exact h0.symm
  rw[List.eq_nil_of_length_eq_zero this];rfl
 ·exact hf.elim
theorem w_{α β:Type}{size:Nat}{x:Value}{f:Nat×List Value→AP α}{e:Sem β}{R:bL→α→β→Prop}
  (hk:∀ k l,lu h size x k l→ak P Γ W h n w (f (k,l)) e R):ak P Γ W h n w ((iG size x).bind f) e R:=by
 unfold iG;split
 ·exact hk _ _ ⟨rfl,rfl⟩
 ·rename_i a m cap;refine ak.get fun B hB=>?_;cases B with
  |map=>exact ak.fail
  |iter=>exact ak.fail
  |loop=>exact ak.fail
  |deferred=>exact ak.fail
  |cells c ro=>
   dsimp only;cases hr:aW c a.off (m*size) with
   |none=>exact ak.fail
   |some l=>exact hk _ _ ⟨rfl,c,ro,hB,hr⟩
 ·exact hk _ _ ⟨rfl,rfl⟩
 ·exact ak.fail
theorem lu.run{size:Nat}{x x':Value}{k:Nat}{l:List Value}(hS:bK Γ W h w)(hx:aD Γ x x')(hf:lu h size x k l):
  ∃ l',aM Γ l l'∧(Builtin.firstCells size k x').run P w = .ok ⟨l'⟩ w∧∀ w,(Builtin.lenOf x').run P w = .ok k w:=by
 unfold lu at hf;split at hf
 ·obtain⟨rfl,rfl⟩:=hf;cases hx;exact⟨[],.nil,rfl,fun _=>rfl⟩
 ·obtain⟨rfl,c,ro,hb,hr⟩:=hf;cases hx with
  |slice a a' _ _ _ ha hc=>
   obtain⟨l',hl,hrun⟩:=qE (P:=P) hS hb ha rfl hr;exact⟨l',hl,hrun,fun _=>rfl⟩
 ·obtain⟨rfl,rfl⟩:=hf;cases hx;rename_i s;refine⟨_,aM.Bd _ (fun v hv=>?_),?_,fun _=>rfl⟩
  ·simp only[List.mem_map] at hv;obtain⟨b,_,rfl⟩:=hv;exact .int _ _
  ·simp only[Builtin.firstCells,Sem.run_pure]
   congr 1
   have:s.extract 0 s.size=s:=by simp
   rw[this];apply Array.ext';simp
 ·exact hf.elim
theorem JM(newLen c:Nat)(h:c≤1048576):Builtin.growBy newLen 4 c≤16777216:=by
 simp only[Builtin.growBy]
 repeat' split
 all_goals omega
theorem nextslicecap_le{need c:Nat}(hn:need≤1048576)(hc:c<need):Builtin.nextslicecap need c≤16777216:=by
 unfold Builtin.nextslicecap;split
 ·omega
 ·split
  ·omega
  ·exact JM _ _ qJ
end
end Go.Am
