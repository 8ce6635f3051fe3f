/-
  The abstract machine: the operations' simulations, one by one: loads, stores, new blocks, addresses.
-/
import Derived.Test.YtbceiadaihphaaaGreatAmD
set_option linter.unusedSimpArgs false
set_option linter.unusedVariables false
namespace Go.Am
open Go.RowKit
section
variable {P:Program} {Γ:bu} {W w:World} {h:PT aj} {n:Nat}
theorem aD {t:TypeId} {d:TypeDesc} (h:P.underlying t=some d) (w:World):(underlying t).run P w = .ok d w:=run_underlying h w
theorem dj {t:TypeId} {i:TypeInfo} (h:P.info? t=some i) (w:World):(typeInfo t).run P w = .ok i w:=by
 simp[typeInfo,h]
theorem bF {t:TypeId} {i:TypeInfo} (h:P.info? t=some i) (w:World):(sizeOf t).run P w = .ok i.size w:=by
 simp[sizeOf,dj h]
theorem mK {t:TypeId} {d:TypeDesc} (h:P.underlying t=some d) (w:World):(Go.isAgg t).run P w = .ok (Am.isAgg d) w:=by
 simp only[Go.isAgg,Sem.run_bind,aD h,Result.andThen_ok]
 cases d<;>rfl
theorem cT {t:TypeId} {z:Value} (h:zeroOf P t=some z):(∀ w,(zeroValue t).run P w = .ok z w)∧∀ Γ,aF Γ z z:=by
 unfold zeroOf at h
 cases hi:P.info? t with
 |none=>simp[hi] at h
 |some i=>
  simp only[hi] at h
  cases hz:i.zero with
  |none=>simp[hz] at h
  |some z'=>
   simp only[hz] at h
   cases hf:flat 4 z' with
   |false=>simp[hf] at h
   |true=>
    obtain rfl:z'=z:=by simpa [hf] using h
    exact⟨fun w=>by simp[zeroValue,dj hi,hz],fun Γ=>vu 4 _ hf⟩
theorem aF.cells {v v':Value} (h:aF Γ v v'):aH Γ v.cells.toList v'.cells.toList:=by
 cases h<;>first
  | (rename_i h;exact h)
  | (refine .cons _ _ _ _ ?_ .nil;constructor<;>assumption)
theorem aF.bn {v v':Value} (h:aF Γ v v'):bn v'=bn v:=by cases h<;>rfl
theorem aF.oneCell' {v v':Value} (h:aF Γ v v') (ho:Am.bn v=true):v'.oneCell'=true:=by cases h<;>first |rfl |simp[Am.bn] at ho
theorem iV:∀ (m:Nat) (c:PT Value) (off:Nat) (l:List Value),bp c off m=some l→l.length=m∧∀ j v,l[j]? = some v→c.get (off+j)=some v
 |0,c,off,l,h=>by simp[bp] at h;subst h;simp
 |m+1,c,off,l,h=>by
  simp only[bp] at h
  split at h
  ·simp at h
  ·rename_i v hv
   split at h
   ·simp at h
   ·rename_i l' hl'
    obtain rfl:v::l'=l:=by simpa using h
    obtain⟨h1,h2⟩:=iV m c (off+1) l' hl'
    refine⟨by simp[h1],fun j u hu=>?_⟩
    cases j with
    |zero=>simp at hu;subst hu;exact hv
    |succ j=>simp at hu;have:=h2 j u hu;rwa [show off+1+j=off+(j+1) by omega] at this
theorem pZ:∀ (l:List Value) (Q:Nat→Value→Prop),(∀ j v,l[j]? = some v→∃ v',Q j v'∧aF Γ v v')→∃ l',aH Γ l l'∧∀ j v',l'[j]? = some v'→Q j v'
 | [],Q,_=>⟨[],.nil,fun j v' h=>by simp at h⟩
 |v::l,Q,h=>by
  obtain⟨v',hq,hv⟩:=h 0 v rfl
  obtain⟨l',hl,KA⟩:=pZ l (fun j=>Q (j+1)) fun j u hu=>h (j+1) u (by simpa using hu)
  refine⟨v'::l',.cons _ _ _ _ hv hl,fun j u hu=>?_⟩
  cases j with
  |zero=>simp at hu;subst hu;exact hq
  |succ j=>simp at hu;exact KA j u hu
theorem gR (hS:bq Γ W h w) {i:Nat} {c:PT Value} {ro:Bool} (hb:h.get i=some (.cells c ro)) {a a':Addr} (ha:Γ.addr a a') (hi:a.block=i) {m:Nat} {l:List Value}
  (hr:bp c a.off m=some l):∃ l',aH Γ l l'∧(loadCells a' m).run P w = .ok ⟨l'⟩ w:=by
 obtain⟨hlen,KB⟩:=iV m c a.off l hr
 obtain⟨l',hl,hq⟩:=pZ (Γ:=Γ) l (fun j v'=>w.cell? (a'.add j)=some v') fun j v hv=>by
  obtain⟨v',e,r⟩:=hS.cell hb (KB j v hv) ha hi (j:=j) rfl
  exact⟨v',e,r⟩
 refine⟨l',hl,?_⟩
 have:=run_loadCells_list (P:=P) w a' l' hq
 rw[hl.length,hlen] at this
 exact this
theorem nj (hS:bq Γ W h w) {i:Nat} {c:PT Value} {ro:Bool} (hb:h.get i=some (.cells c ro)) {a a':Addr} {m cap size:Nat} (ha:Γ.addr' m cap a a') (hi:a.block=i) {l:List Value}
  (hr:bp c a.off (m*size)=some l):∃ l',aH Γ l l'∧(loadCells a' (m*size)).run P w = .ok ⟨l'⟩ w:=by
 rcases ha with ha |ha
 ·exact gR hS hb ha hi hr
 ·obtain rfl:m=0:=by rcases ha with ha |ha<;>exact ha.1
  rw[Nat.zero_mul] at hr ⊢
  simp only[bp,Option.some.injEq] at hr
  subst hr
  exact⟨[],.nil,by simp[loadCells,loadCellsFrom]⟩
theorem tE {t:TypeId} {x x':Value} (hx:aF Γ x x'):fK P Γ (fT P t x) (Instr.loadAt t x') aF:=by
 intro W h n w hS
 unfold fT
 split
 ·rename_i a i d hi hd
  cases hx with
  |ptr _ a' ha=>
   refine ak.get fun B hB=>?_
   cases B with
   |map=>exact ak.fail
   |iter=>exact ak.fail
   |loop=>exact ak.fail
   |deferred=>exact ak.fail
   |cells c ro=>
    dsimp only
    have hrun:(Instr.loadAt t (.pointer (some a'))).run P w=(loadVar t a').run P w:=by simp[Instr.loadAt,Instr.sureAddr]
    cases oX:isAgg d with
    |true=>
     simp only[cond_true]
     split
     ·rename_i l hl
      obtain⟨l',hl',hr⟩:=gR (P:=P) hS hB ha rfl hl
      refine ak.ok hS (b := .agg ⟨l'⟩) ?_ (.agg _ _ hl')
      rw[hrun]
      simp[loadVar,mK hd,oX,bF hi,hr]
     ·exact ak.fail
    |false=>
     simp only[cond_false]
     split
     ·rename_i v hv
      obtain⟨v',e,r⟩:=hS.CX hB hv ha rfl
      refine ak.ok hS (b:=v') ?_ r
      rw[hrun]
      simp[loadVar,mK hd,oX,e]
     ·exact ak.fail
 ·exact ak.fail
theorem bq.congr {h':PT aj} (hS:bq Γ W h w) (e:∀ k,h'.get k=h.get k):bq Γ W h' w:=
 ⟨hS.below,hS.fz,fun i B hi=>hS.live i B (by rw[←e];exact hi),fun i j B B' b s b' s' hij hi hj=>hS.lD i j B B' b s b' s' hij (by rw[←e];exact hi) (by rw[←e];exact hj),hS.dom,hS.iB,hS.fin,fun i c ro hi=>hS.rows i c ro (by rw[←e];exact hi)⟩
theorem PT.vC {α:Type} (t:PT α) (i:Nat) (u v:Option α) (k:Nat):((t.set i u).set i v).get k=(t.set i v).get k:=by
 simp only[PT.bK];split<;>rfl
theorem eT {i:Nat} {a a':Addr} (hi:a.block=i):∀ (l l':List Value) (c c':PT Value) (j:Nat) (h:PT aj) (w:World),Γ.addr a a'→bq Γ W h w→h.get i=some (.cells c false)→aH Γ l l'→
  bQ c (a.off+j) l=some c'→∃ w',(storeCells a' l' j).run P w = .ok () w'∧bq Γ W (h.set i (some (.cells c' false))) w'
 | [],l',c,c',j,h,w,ha,hS,hb,hl,hw=>by
  cases hl
  simp only[bQ,Option.some.injEq] at hw
  subst hw
  exact⟨w,rfl,hS.congr fun k=>by rw[PT.bK];split<;>simp_all⟩
 |v::l,l',c,c',j,h,w,ha,hS,hb,hl,hw=>by
  cases hl with
  |cons _ v' _ l' hv hl=>
   simp only[bQ] at hw
   split at hw
   ·simp at hw
   ·rename_i u hu
    cases ho:bn v with
    |false=>simp[ho] at hw
    |true=>
     simp only[ho,cond_true] at hw
     have rm:Γ.addr (jf a j) (a'.add j):=by
      obtain⟨s,e,o⟩:=ha.at_
      unfold Addr.add jf
      split
      ·rename_i hj;subst hj;exact⟨rfl,ha.spot',s,e,by simpa using o⟩
      ·exact⟨rfl,rfl,s,e,by simp[o,Nat.add_assoc]⟩
     have hst:=hS.setCell hb rm hi hv (by simp[jf,hu])
     obtain⟨u',zS,_⟩:=hS.cell hb hu ha hi (j:=j) rfl
     have hfz:=hS.frozen hb ha hi j
     obtain⟨w',hrun,kR⟩:=eT hi l l' (c.set (a.off+j) (some v)) c' (j+1) _ _ ha hst (by simp[PT.gi,jf]) hl hw
     refine⟨w',?_,kR.congr fun k=>(PT.vC _ _ _ _ _).symm⟩
     simp only[storeCells,Sem.run_bind,run_store P w _ _ .plain (hv.oneCell' ho),zS,hfz]
     simpa using hrun
theorem xV {t:TypeId} {x x' v v':Value} (hx:aF Γ x x') (hv:aF Γ v v'):fK P Γ (qT P t x v) (Instr.storeAt t x' v') (fun _ _ _=>True):=by
 intro W h n w hS
 unfold qT
 split
 ·rename_i a i hi
  cases hx with
  |ptr _ a' ha=>
   cases hsz:Nat.beq v.cells.toList.length i.size with
   |false=>exact ak.fail
   |true=>
    have hsz:=Nat.eq_of_beq_eq_true hsz
    simp only[cond_true]
    refine ak.get fun B hB=>?_
    split
    ·rename_i c
     split
     ·rename_i c' Jo
      obtain⟨w',hr,kR⟩:=eT (P:=P) (i:=a.block) rfl _ _ c c' 0 h w ha hS hB hv.cells Jo
      refine ak.set (w':=w') (e':=pure ()) ?_ (ak.ok kR rfl trivial)
      have:v'.cells.size=i.size:=by rw[←hsz,←hv.cells.length];simp
      simp only[Instr.storeAt,Instr.sureAddr,Sem.run_bind,Sem.run_pure,Result.andThen_ok,storeVar,bF hi,this,ne_eq,not_true_eq_false,if_false]
      exact hr
     ·exact ak.fail
    ·exact ak.fail
 ·exact ak.fail
theorem rq {l:List Value} {cs:Array Value} (hl:aH Γ l cs.toList) (el:TypeId):fK P Γ (newRow l) (do pure (.pointer (some (←Go.newRow el cs))):Sem Value) aF:=by
 intro W h n w hS
 refine ak.new fun hn=>?_
 obtain⟨aS,hst,hb,_,kR⟩:=hS.kj hn l cs el (fun i v hv=>by simpa using hl.get hv)
 refine⟨aS,w.alloc (.cells cs el),pure (.pointer (some ⟨w.heap.size,0,none⟩)),hst,by simp[Go.newRow],ak.ok kR rfl ?_⟩
 exact .ptr _ _ ⟨rfl,rfl,0,by simpa using hb,by simp⟩
theorem xW {t:TypeId}:fK P Γ (qU P t) (Instr.alloc t true (.tuple #[])) aF:=by
 intro W h n w hS
 unfold qU
 split
 ·rename_i z hz
  obtain⟨hrun,gX⟩:=cT hz
  refine ak.congr (e':=do pure (.pointer (some (←Go.newRow t z.cells)))) (w':=w) ?_ (rq (gX Γ).cells t W h n w hS)
  simp[Instr.alloc,hrun,newVar]
 ·exact ak.fail
theorem Gu {t:TypeId} {v v':Value} (hv:aF Γ v v'):fK P Γ (newRow v.cells.toList) (Instr.box t v') aF:=by
 intro W h n w hS
 exact ak.congr (e':=do pure (.pointer (some (←Go.newRow t v'.cells)))) (w':=w) (by simp[Instr.box,newVar]) (rq hv.cells t W h n w hS)
theorem bu.addr.add {a a':Addr} (ha:Γ.addr a a') (k:Nat):Γ.addr (jf a k) (a'.add k):=by
 obtain⟨s,e,o⟩:=ha.at_
 unfold Addr.add jf
 split
 ·rename_i hj;subst hj;exact⟨rfl,ha.spot',s,e,by simpa using o⟩
 ·exact⟨rfl,rfl,s,e,by simp[o,Nat.add_assoc]⟩
theorem ru {s:TypeId} {x x':Value} {f:Nat} (hx:aF Γ x x'):fK P Γ (iL P s x f) (Instr.fieldAt s x' f) aF:=by
 intro W h n w hS
 unfold iL
 split
 ·rename_i a fs hd
  split
  ·rename_i fd hf
   split
   ·rename_i i hi
    cases hz:Nat.beq i.size 0 with
    |true=>exact ak.fail
    |false=>
     have hz:i.size≠0:=fun e=>by rw[e] at hz;exact Bool.noConfusion hz
     cases hx with
     |ptr _ a' ha=>
      have hf':fs[f]? = some fd:=by simpa using hf
      refine ak.ok hS (b := .pointer (some (a'.add fd.offset))) ?_ (.ptr _ _ (ha.add _))
      simp[Instr.fieldAt,aD hd,hf',Instr.sureAddr,fieldPlace,bF hi,hz]
   ·exact ak.fail
  ·exact ak.fail
 ·exact ak.fail
theorem fF {t:TypeId} {cs cs':List Value} {off:Nat} {v:Value} (hc:aH Γ cs cs') (he:jj P t cs off=some v):
  ∃ v',(∀ w,(part t ⟨cs'⟩ off).run P w = .ok v' w)∧aF Γ v v':=by
 unfold jj at he
 split at he
 ·rename_i i d hi hd
  cases oX:isAgg d with
  |true=>
   simp only[oX,cond_true,Option.some.injEq] at he
   subst he
   refine⟨.agg ⟨(cs'.drop off).take i.size⟩,fun w=>?_,.agg _ _ ((hc.drop off).take i.size)⟩
   simp[part,mK hd,oX,bF hi,List.extract]
  |false=>
   simp only[oX,cond_false] at he
   obtain⟨v',e,r⟩:=hc.get he
   refine⟨v',fun w=>?_,r⟩
   simp[part,mK hd,oX,e]
 ·simp at he
theorem xX {t:TypeId} {x x':Value} {f:Nat} (hx:aF Γ x x'):fK P Γ (qW P t x f) (Instr.field t x' f) aF:=by
 intro W h n w hS
 unfold qW
 split
 ·rename_i cs fs hd
  split
  ·rename_i fd hf
   cases hx with
   |agg l l' hl=>
    unfold AP.opt
    split
    ·rename_i v hv
     obtain⟨v',hr,gX⟩:=fF hl hv
     have hf':fs[f]? = some fd:=by simpa using hf
     refine ak.ok hS (b:=v') ?_ gX
     simp[Instr.field,aD hd,hf',asAgg,hr]
    ·exact ak.fail
  ·exact ak.fail
 ·exact ak.fail
theorem eu {v v':Value} {k:Nat} (h:aF Γ v v') (e:asNat v=some k):∃ kd,v' = .int kd (k:Int):=by
 unfold asNat at e
 split at e
 ·obtain rfl:=Option.some.inj e;cases h;exact⟨_,rfl⟩
 ·simp at e
theorem ry {t:TypeId} {x x' i i':Value} (hx:aF Γ x x') (hi:aF Γ i i'):fK P Γ (iM P t x i) (Instr.indexAt t x' i') aF:=by
 intro W h n w hS
 unfold iM
 split
 ·rename_i len e a k hd hk
  split
  ·rename_i j hj
   cases hlt:Nat.blt k len with
   |false=>exact ak.fail
   |true=>
    have hlt:k<len:=Nat.blt_eq.mp hlt
    obtain⟨kd,rfl⟩:=eu hi hk
    cases hx with
    |ptr _ a' ha=>
     refine ak.ok hS (b := .pointer (some (a'.add (k*j.size)))) ?_ (.ptr _ _ (ha.add _))
     have h1:(0:Int)≤k∧(k:Int)<len:=⟨by omega,by omega⟩
     simp[Instr.indexAt,asIntOf,aD hd,Instr.sureAddr,bF hj,h1,hlt]
  ·exact ak.fail
 ·rename_i e a len cap k hd hk
  split
  ·rename_i j hj
   cases hlt:Nat.blt k len with
   |false=>exact ak.fail
   |true=>
    have hlt:k<len:=Nat.blt_eq.mp hlt
    obtain⟨kd,rfl⟩:=eu hi hk
    cases hx with
    |slice _ a' _ _ c' ha hc=>
     have ha:=ha.exact (.inl (by omega))
     refine ak.ok hS (b := .pointer (some (a'.add (k*j.size)))) ?_ (.ptr _ _ (ha.add _))
     have h1:(0:Int)≤k∧(k:Int)<len:=⟨by omega,by omega⟩
     simp[Instr.indexAt,asIntOf,aD hd,bF hj,h1,hlt]
  ·exact ak.fail
 ·exact ak.fail
theorem AJ {s:ByteArray} {k:Nat} {b:UInt8} (hb:s.data.toList[k]? = some b):s[k]? = some b:=by
 have h:s.data[k]? = some b:=by simpa using hb
 rw[getElem?_def]
 obtain⟨hlt,he⟩:=Array.getElem?_eq_some_iff.1 h
 have hlt':k<s.size:=hlt
 rw[dif_pos hlt']
 exact congrArg some he
theorem xY {t:TypeId} {x x' i i':Value} (hx:aF Γ x x') (hi:aF Γ i i'):fK P Γ (o9 P t x i) (Instr.index t x' i') aF:=by
 intro W h n w hS
 unfold o9
 split
 ·rename_i len e cs k hd hk
  split
  ·rename_i j hj
   cases hlt:Nat.blt k len with
   |false=>exact ak.fail
   |true=>
    have hlt:k<len:=Nat.blt_eq.mp hlt
    obtain⟨kd,rfl⟩:=eu hi hk
    cases hx with
    |agg l l' hl=>
     simp only[cond_true]
     unfold AP.opt
     split
     ·rename_i v hv
      obtain⟨v',hr,gX⟩:=fF hl hv
      refine ak.ok hS (b:=v') ?_ gX
      have h1:(0:Int)≤k∧(k:Int)<len:=⟨by omega,by omega⟩
      simp[Instr.index,asIntOf,aD hd,bF hj,h1,hr,hlt]
     ·exact ak.fail
  ·exact ak.fail
 ·rename_i s k hd hk
  split
  ·rename_i b hb
   obtain⟨kd,rfl⟩:=eu hi hk
   cases hx
   refine ak.ok hS (b := .int .u8 b.toNat) ?_ (.int _ _)
   have:s[k]? = some b:=AJ hb
   simp[Instr.index,asIntOf,aD hd,this]
  ·exact ak.fail
 ·exact ak.fail
end
end Go.Am
