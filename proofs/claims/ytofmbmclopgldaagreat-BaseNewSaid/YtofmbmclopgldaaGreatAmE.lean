/-
  The abstract machine: the operations' simulations, one by one: loads, stores, new blocks, addresses.
-/
import Derived.Test.YtofmbmclopgldaaGreatAmD
set_option linter.unusedSimpArgs false
set_option linter.unusedVariables false
namespace Go.Am
open Go.RowKit
section
variable {P:Program} {Γ:br} {W w:World} {h:PT ak} {n:Nat}
theorem az {t:TypeId} {d:TypeDesc} (h:P.underlying t=some d) (w:World):(underlying t).run P w = .ok d w:=run_underlying h w
theorem dr {t:TypeId} {i:TypeInfo} (h:P.info? t=some i) (w:World):(typeInfo t).run P w = .ok i w:=by
 simp[typeInfo,h]
theorem bz {t:TypeId} {i:TypeInfo} (h:P.info? t=some i) (w:World):(sizeOf t).run P w = .ok i.size w:=by
 simp[sizeOf,dr h]
theorem mK {t:TypeId} {d:TypeDesc} (h:P.underlying t=some d) (w:World):(Go.isAgg t).run P w = .ok (Am.isAgg d) w:=by
 simp only[Go.isAgg,Sem.run_bind,az h,Result.andThen_ok]
 cases d<;>rfl
theorem cM {t:TypeId} {z:Value} (h:zeroOf P t=some z):(∀ w,(zeroValue t).run P w = .ok z w)∧∀ Γ,aA Γ z z:=by
 unfold zeroOf at h
 cases hi:P.info? t with
 |none=>simp[hi] at h
 |some i=>
  simp only[hi] at h
  cases hz:i.zero with
  |none=>simp[hz] at h
  |some z'=>
   simp only[hz] at h
   cases hf:flat 4 z' with
   |false=>simp[hf] at h
   |true=>
    obtain rfl:z'=z:=by simpa [hf] using h
    exact⟨fun w=>by simp[zeroValue,dr hi,hz],fun Γ=>xx 4 _ hf⟩
theorem aA.cells {v v':Value} (h:aA Γ v v'):aF Γ v.cells.toList v'.cells.toList:=by
 cases h<;>first
  | (rename_i h;exact h)
  | (refine .cons _ _ _ _ ?_ .nil;constructor<;>assumption)
theorem aA.bn {v v':Value} (h:aA Γ v v'):bn v'=bn v:=by cases h<;>rfl
theorem aA.oneCell' {v v':Value} (h:aA Γ v v') (ho:Am.bn v=true):v'.oneCell'=true:=by cases h<;>first |rfl |simp[Am.bn] at ho
theorem jc:∀ (m:Nat) (c:PT Value) (off:Nat) (l:List Value),aP c off m=some l→l.length=m∧∀ j v,l[j]? = some v→c.get (off+j)=some v
 |0,c,off,l,h=>by simp[aP] at h;subst h;simp
 |m+1,c,off,l,h=>by
  simp only[aP] at h
  split at h
  ·simp at h
  ·rename_i v hv
   split at h
   ·simp at h
   ·rename_i l' hl'
    obtain rfl:v::l'=l:=by simpa using h
    obtain⟨h1,h2⟩:=jc m c (off+1) l' hl'
    refine⟨by simp[h1],fun j u hu=>?_⟩
    cases j with
    |zero=>simp at hu;subst hu;exact hv
    |succ j=>simp at hu;have:=h2 j u hu;rwa [show off+1+j=off+(j+1) by omega] at this
theorem qg:∀ (l:List Value) (Q:Nat→Value→Prop),(∀ j v,l[j]? = some v→∃ v',Q j v'∧aA Γ v v')→∃ l',aF Γ l l'∧∀ j v',l'[j]? = some v'→Q j v'
 | [],Q,_=>⟨[],.nil,fun j v' h=>by simp at h⟩
 |v::l,Q,h=>by
  obtain⟨v',hq,hv⟩:=h 0 v rfl
  obtain⟨l',hl,hq'⟩:=qg l (fun j=>Q (j+1)) fun j u hu=>h (j+1) u (by simpa using hu)
  refine⟨v'::l',.cons _ _ _ _ hv hl,fun j u hu=>?_⟩
  cases j with
  |zero=>simp at hu;subst hu;exact hq
  |succ j=>simp at hu;exact hq' j u hu
theorem gT (hS:bh Γ W h w) {i:Nat} {c:PT Value} {ro:Bool} (hb:h.get i=some (.cells c ro)) {a a':Addr} (ha:Γ.addr a a') (hi:a.block=i) {m:Nat} {l:List Value}
  (hr:aP c a.off m=some l):∃ l',aF Γ l l'∧(loadCells a' m).run P w = .ok ⟨l'⟩ w:=by
 obtain⟨hlen,aap⟩:=jc m c a.off l hr
 obtain⟨l',hl,hq⟩:=qg (Γ:=Γ) l (fun j v'=>w.cell? (a'.add j)=some v') fun j v hv=>by
  obtain⟨v',e,r⟩:=hS.cell hb (aap j v hv) ha hi (j:=j) rfl
  exact⟨v',e,r⟩
 refine⟨l',hl,?_⟩
 have:=run_loadCells_list (P:=P) w a' l' hq
 rw[hl.length,hlen] at this
 exact this
theorem nu (hS:bh Γ W h w) {i:Nat} {c:PT Value} {ro:Bool} (hb:h.get i=some (.cells c ro)) {a a':Addr} {m cap size:Nat} (ha:Γ.addr' m cap a a') (hi:a.block=i) {l:List Value}
  (hr:aP c a.off (m*size)=some l):∃ l',aF Γ l l'∧(loadCells a' (m*size)).run P w = .ok ⟨l'⟩ w:=by
 rcases ha with ha |ha
 ·exact gT hS hb ha hi hr
 ·obtain rfl:m=0:=by rcases ha with ha |ha<;>exact ha.1
  rw[Nat.zero_mul] at hr ⊢
  simp only[aP,Option.some.injEq] at hr
  subst hr
  exact⟨[],.nil,by simp[loadCells,loadCellsFrom]⟩
theorem uB {t:TypeId} {x x':Value} (hx:aA Γ x x'):fD P Γ (dX P t x) (Instr.loadAt t x') aA:=by
 intro W h n w hS
 unfold dX
 split
 ·rename_i a i d hi hd
  cases hx with
  |ptr _ a' ha=>
   refine aj.get fun B hB=>?_
   cases B with
   |map=>exact aj.fail
   |iter=>exact aj.fail
   |loop=>exact aj.fail
   |deferred=>exact aj.fail
   |cells c ro=>
    dsimp only
    have hrun:(Instr.loadAt t (.pointer (some a'))).run P w=(loadVar t a').run P w:=by simp[Instr.loadAt,Instr.sureAddr]
    cases o_:isAgg d with
    |true=>
     simp only[cond_true]
     split
     ·rename_i l hl
      obtain⟨l',hl',hr⟩:=gT (P:=P) hS hB ha rfl hl
      refine aj.ok hS (b := .agg ⟨l'⟩) ?_ (.agg _ _ hl')
      rw[hrun]
      simp[loadVar,mK hd,o_,bz hi,hr]
     ·exact aj.fail
    |false=>
     simp only[cond_false]
     split
     ·rename_i v hv
      obtain⟨v',e,r⟩:=hS.Ey hB hv ha rfl
      refine aj.ok hS (b:=v') ?_ r
      rw[hrun]
      simp[loadVar,mK hd,o_,e]
     ·exact aj.fail
 ·exact aj.fail
theorem bh.congr {h':PT ak} (hS:bh Γ W h w) (e:∀ k,h'.get k=h.get k):bh Γ W h' w:=
 ⟨hS.below,hS.fz,fun i B hi=>hS.live i B (by rw[←e];exact hi),fun i j B B' b s b' s' hij hi hj=>hS.j6 i j B B' b s b' s' hij (by rw[←e];exact hi) (by rw[←e];exact hj),hS.dom,hS.gG,hS.fin,fun i c ro hi=>hS.rows i c ro (by rw[←e];exact hi)⟩
theorem PT.xC {α:Type} (t:PT α) (i:Nat) (u v:Option α) (k:Nat):((t.set i u).set i v).get k=(t.set i v).get k:=by
 simp only[PT.aZ];split<;>rfl
theorem eL {i:Nat} {a a':Addr} (hi:a.block=i):∀ (l l':List Value) (c c':PT Value) (j:Nat) (h:PT ak) (w:World),Γ.addr a a'→bh Γ W h w→h.get i=some (.cells c false)→aF Γ l l'→
  bt c (a.off+j) l=some c'→∃ w',(storeCells a' l' j).run P w = .ok () w'∧bh Γ W (h.set i (some (.cells c' false))) w'
 | [],l',c,c',j,h,w,ha,hS,hb,hl,hw=>by
  cases hl
  simp only[bt,Option.some.injEq] at hw
  subst hw
  exact⟨w,rfl,hS.congr fun k=>by rw[PT.aZ];split<;>simp_all⟩
 |v::l,l',c,c',j,h,w,ha,hS,hb,hl,hw=>by
  cases hl with
  |cons _ v' _ l' hv hl=>
   simp only[bt] at hw
   split at hw
   ·simp at hw
   ·rename_i u hu
    cases ho:bn v with
    |false=>simp[ho] at hw
    |true=>
     simp only[ho,cond_true] at hw
     have rQ:Γ.addr (jB a j) (a'.add j):=by
      obtain⟨s,e,o⟩:=ha.at_
      unfold Addr.add jB
      split
      ·rename_i hj;subst hj;exact⟨rfl,ha.spot',s,e,by simpa using o⟩
      ·exact⟨rfl,rfl,s,e,by simp[o,Nat.add_assoc]⟩
     have hst:=hS.setCell hb rQ hi hv (by simp[jB,hu])
     obtain⟨u',hu',_⟩:=hS.cell hb hu ha hi (j:=j) rfl
     have hfz:=hS.frozen hb ha hi j
     obtain⟨w',hrun,iO⟩:=eL hi l l' (c.set (a.off+j) (some v)) c' (j+1) _ _ ha hst (by simp[PT.gl,jB]) hl hw
     refine⟨w',?_,iO.congr fun k=>(PT.xC _ _ _ _ _).symm⟩
     simp only[storeCells,Sem.run_bind,run_store P w _ _ .plain (hv.oneCell' ho),hu',hfz]
     simpa using hrun
theorem zP {t:TypeId} {x x' v v':Value} (hx:aA Γ x x') (hv:aA Γ v v'):fD P Γ (jX P t x v) (Instr.storeAt t x' v') (fun _ _ _=>True):=by
 intro W h n w hS
 unfold jX
 split
 ·rename_i a i hi
  cases hx with
  |ptr _ a' ha=>
   cases hsz:Nat.beq v.cells.toList.length i.size with
   |false=>exact aj.fail
   |true=>
    have hsz:=Nat.eq_of_beq_eq_true hsz
    simp only[cond_true]
    refine aj.get fun B hB=>?_
    split
    ·rename_i c
     split
     ·rename_i c' Lx
      obtain⟨w',hr,iO⟩:=eL (P:=P) (i:=a.block) rfl _ _ c c' 0 h w ha hS hB hv.cells Lx
      refine aj.set (w':=w') (e':=pure ()) ?_ (aj.ok iO rfl trivial)
      have:v'.cells.size=i.size:=by rw[←hsz,←hv.cells.length];simp
      simp only[Instr.storeAt,Instr.sureAddr,Sem.run_bind,Sem.run_pure,Result.andThen_ok,storeVar,bz hi,this,ne_eq,not_true_eq_false,if_false]
      exact hr
     ·exact aj.fail
    ·exact aj.fail
 ·exact aj.fail
theorem rR {l:List Value} {cs:Array Value} (hl:aF Γ l cs.toList) (el:TypeId):fD P Γ (newRow l) (do pure (.pointer (some (←Go.newRow el cs))):Sem Value) aA:=by
 intro W h n w hS
 refine aj.new fun hn=>?_
 obtain⟨aS,hst,hb,_,iO⟩:=hS.j7 hn l cs el (fun i v hv=>by simpa using hl.get hv)
 refine⟨aS,w.alloc (.cells cs el),pure (.pointer (some ⟨w.heap.size,0,none⟩)),hst,by simp[Go.newRow],aj.ok iO rfl ?_⟩
 exact .ptr _ _ ⟨rfl,rfl,0,by simpa using hb,by simp⟩
theorem zQ {t:TypeId}:fD P Γ (nH P t) (Instr.alloc t true (.tuple #[])) aA:=by
 intro W h n w hS
 unfold nH
 split
 ·rename_i z hz
  obtain⟨hrun,hrel⟩:=cM hz
  refine aj.congr (e':=do pure (.pointer (some (←Go.newRow t z.cells)))) (w':=w) ?_ (rR (hrel Γ).cells t W h n w hS)
  simp[Instr.alloc,hrun,newVar]
 ·exact aj.fail
theorem I1 {t:TypeId} {v v':Value} (hv:aA Γ v v'):fD P Γ (newRow v.cells.toList) (Instr.box t v') aA:=by
 intro W h n w hS
 exact aj.congr (e':=do pure (.pointer (some (←Go.newRow t v'.cells)))) (w':=w) (by simp[Instr.box,newVar]) (rR hv.cells t W h n w hS)
theorem br.addr.add {a a':Addr} (ha:Γ.addr a a') (k:Nat):Γ.addr (jB a k) (a'.add k):=by
 obtain⟨s,e,o⟩:=ha.at_
 unfold Addr.add jB
 split
 ·rename_i hj;subst hj;exact⟨rfl,ha.spot',s,e,by simpa using o⟩
 ·exact⟨rfl,rfl,s,e,by simp[o,Nat.add_assoc]⟩
theorem rS {s:TypeId} {x x':Value} {f:Nat} (hx:aA Γ x x'):fD P Γ (ew P s x f) (Instr.fieldAt s x' f) aA:=by
 intro W h n w hS
 unfold ew
 split
 ·rename_i a fs hd
  split
  ·rename_i fd hf
   split
   ·rename_i i hi
    cases hz:Nat.beq i.size 0 with
    |true=>exact aj.fail
    |false=>
     have hz:i.size≠0:=fun e=>by rw[e] at hz;exact Bool.noConfusion hz
     cases hx with
     |ptr _ a' ha=>
      have hf':fs[f]? = some fd:=by simpa using hf
      refine aj.ok hS (b := .pointer (some (a'.add fd.offset))) ?_ (.ptr _ _ (ha.add _))
      simp[Instr.fieldAt,az hd,hf',Instr.sureAddr,fieldPlace,bz hi,hz]
   ·exact aj.fail
  ·exact aj.fail
 ·exact aj.fail
theorem fq {t:TypeId} {cs cs':List Value} {off:Nat} {v:Value} (hc:aF Γ cs cs') (he:jo P t cs off=some v):
  ∃ v',(∀ w,(part t ⟨cs'⟩ off).run P w = .ok v' w)∧aA Γ v v':=by
 unfold jo at he
 split at he
 ·rename_i i d hi hd
  cases o_:isAgg d with
  |true=>
   simp only[o_,cond_true,Option.some.injEq] at he
   subst he
   refine⟨.agg ⟨(cs'.drop off).take i.size⟩,fun w=>?_,.agg _ _ ((hc.drop off).take i.size)⟩
   simp[part,mK hd,o_,bz hi,List.extract]
  |false=>
   simp only[o_,cond_false] at he
   obtain⟨v',e,r⟩:=hc.get he
   refine⟨v',fun w=>?_,r⟩
   simp[part,mK hd,o_,e]
 ·simp at he
theorem zR {t:TypeId} {x x':Value} {f:Nat} (hx:aA Γ x x'):fD P Γ (nJ P t x f) (Instr.field t x' f) aA:=by
 intro W h n w hS
 unfold nJ
 split
 ·rename_i cs fs hd
  split
  ·rename_i fd hf
   cases hx with
   |agg l l' hl=>
    unfold AP.opt
    split
    ·rename_i v hv
     obtain⟨v',hr,hrel⟩:=fq hl hv
     have hf':fs[f]? = some fd:=by simpa using hf
     refine aj.ok hS (b:=v') ?_ hrel
     simp[Instr.field,az hd,hf',asAgg,hr]
    ·exact aj.fail
  ·exact aj.fail
 ·exact aj.fail
theorem dU {v v':Value} {k:Nat} (h:aA Γ v v') (e:asNat v=some k):∃ kd,v' = .int kd (k:Int):=by
 unfold asNat at e
 split at e
 ·obtain rfl:=Option.some.inj e;cases h;exact⟨_,rfl⟩
 ·simp at e
theorem rT {t:TypeId} {x x' i i':Value} (hx:aA Γ x x') (hi:aA Γ i i'):fD P Γ (dI P t x i) (Instr.indexAt t x' i') aA:=by
 intro W h n w hS
 unfold dI
 split
 ·rename_i len e a k hd hk
  split
  ·rename_i j hj
   cases hlt:Nat.blt k len with
   |false=>exact aj.fail
   |true=>
    have hlt:k<len:=Nat.blt_eq.mp hlt
    obtain⟨kd,rfl⟩:=dU hi hk
    cases hx with
    |ptr _ a' ha=>
     refine aj.ok hS (b := .pointer (some (a'.add (k*j.size)))) ?_ (.ptr _ _ (ha.add _))
     have h1:(0:Int)≤k∧(k:Int)<len:=⟨by omega,by omega⟩
     simp[Instr.indexAt,asIntOf,az hd,Instr.sureAddr,bz hj,h1,hlt]
  ·exact aj.fail
 ·rename_i e a len cap k hd hk
  split
  ·rename_i j hj
   cases hlt:Nat.blt k len with
   |false=>exact aj.fail
   |true=>
    have hlt:k<len:=Nat.blt_eq.mp hlt
    obtain⟨kd,rfl⟩:=dU hi hk
    cases hx with
    |slice _ a' _ _ c' ha hc=>
     have ha:=ha.exact (.inl (by omega))
     refine aj.ok hS (b := .pointer (some (a'.add (k*j.size)))) ?_ (.ptr _ _ (ha.add _))
     have h1:(0:Int)≤k∧(k:Int)<len:=⟨by omega,by omega⟩
     simp[Instr.indexAt,asIntOf,az hd,bz hj,h1,hlt]
  ·exact aj.fail
 ·exact aj.fail
theorem CG {s:ByteArray} {k:Nat} {b:UInt8} (hb:s.data.toList[k]? = some b):s[k]? = some b:=by
 have h:s.data[k]? = some b:=by simpa using hb
 rw[getElem?_def]
 obtain⟨hlt,he⟩:=Array.getElem?_eq_some_iff.1 h
 have hlt':k<s.size:=hlt
 rw[dif_pos hlt']
 exact congrArg some he
theorem zS {t:TypeId} {x x' i i':Value} (hx:aA Γ x x') (hi:aA Γ i i'):fD P Γ (lq P t x i) (Instr.index t x' i') aA:=by
 intro W h n w hS
 unfold lq
 split
 ·rename_i len e cs k hd hk
  split
  ·rename_i j hj
   cases hlt:Nat.blt k len with
   |false=>exact aj.fail
   |true=>
    have hlt:k<len:=Nat.blt_eq.mp hlt
    obtain⟨kd,rfl⟩:=dU hi hk
    cases hx with
    |agg l l' hl=>
     simp only[cond_true]
     unfold AP.opt
     split
     ·rename_i v hv
      obtain⟨v',hr,hrel⟩:=fq hl hv
      refine aj.ok hS (b:=v') ?_ hrel
      have h1:(0:Int)≤k∧(k:Int)<len:=⟨by omega,by omega⟩
      simp[Instr.index,asIntOf,az hd,bz hj,h1,hr,hlt]
     ·exact aj.fail
  ·exact aj.fail
 ·rename_i s k hd hk
  split
  ·rename_i b hb
   obtain⟨kd,rfl⟩:=dU hi hk
   cases hx
   refine aj.ok hS (b := .int .u8 b.toNat) ?_ (.int _ _)
   have:s[k]? = some b:=CG hb
   simp[Instr.index,asIntOf,az hd,this]
  ·exact aj.fail
 ·exact aj.fail
end
end Go.Am
