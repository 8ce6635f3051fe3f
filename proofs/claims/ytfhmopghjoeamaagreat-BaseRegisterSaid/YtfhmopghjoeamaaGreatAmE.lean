/-
  The abstract machine: the operations' simulations, one by one: loads, stores, new blocks, addresses.
-/
import Derived.Test.YtfhmopghjoeamaaGreatAmD
set_option linter.unusedSimpArgs false
set_option linter.unusedVariables false
namespace Go.Am
open Go.RowKit
section
variable {P:Program} {Γ:aV} {W w:World} {h:PT aj} {n:Nat}
theorem az {t:TypeId} {d:TypeDesc} (h:P.underlying t=some d) (w:World):(underlying t).run P w = .ok d w:=run_underlying h w
theorem cF {t:TypeId} {i:TypeInfo} (h:P.info? t=some i) (w:World):(typeInfo t).run P w = .ok i w:=by
 simp[typeInfo,h]
theorem bn {t:TypeId} {i:TypeInfo} (h:P.info? t=some i) (w:World):(sizeOf t).run P w = .ok i.size w:=by
 simp[sizeOf,cF h]
theorem kG {t:TypeId} {d:TypeDesc} (h:P.underlying t=some d) (w:World):(Go.isAgg t).run P w = .ok (Am.isAgg d) w:=by
 simp only[Go.isAgg,Sem.run_bind,az h,Result.andThen_ok]
 cases d<;>rfl
theorem b_ {t:TypeId} {z:Value} (h:zeroOf P t=some z):(∀ w,(zeroValue t).run P w = .ok z w)∧∀ Γ,ay Γ z z:=by
 unfold zeroOf at h
 cases hi:P.info? t with
 |none=>simp[hi] at h
 |some i=>
  simp only[hi] at h
  cases hz:i.zero with
  |none=>simp[hz] at h
  |some z'=>
   simp only[hz] at h
   cases hf:flat 4 z' with
   |false=>simp[hf] at h
   |true=>
    obtain rfl:z'=z:=by simpa [hf] using h
    exact⟨fun w=>by simp[zeroValue,cF hi,hz],fun Γ=>uw 4 _ hf⟩
theorem ay.cells {v v':Value} (h:ay Γ v v'):aD Γ v.cells.toList v'.cells.toList:=by
 cases h<;>first
  | (rename_i h;exact h)
  | (refine .cons _ _ _ _ ?_ .nil;constructor<;>assumption)
theorem ay.br {v v':Value} (h:ay Γ v v'):br v'=br v:=by cases h<;>rfl
theorem ay.oneCell' {v v':Value} (h:ay Γ v v') (ho:Am.br v=true):v'.oneCell'=true:=by cases h<;>first |rfl |simp[Am.br] at ho
theorem gM:∀ (m:Nat) (c:PT Value) (off:Nat) (l:List Value),aQ c off m=some l→l.length=m∧∀ j v,l[j]? = some v→c.get (off+j)=some v
 |0,c,off,l,h=>by simp[aQ] at h;subst h;simp
 |m+1,c,off,l,h=>by
  simp only[aQ] at h
  split at h
  ·simp at h
  ·rename_i v hv
   split at h
   ·simp at h
   ·rename_i l' hl'
    obtain rfl:v::l'=l:=by simpa using h
    obtain⟨h1,h2⟩:=gM m c (off+1) l' hl'
    refine⟨by simp[h1],fun j u hu=>?_⟩
    cases j with
    |zero=>simp at hu;subst hu;exact hv
    |succ j=>simp at hu;have:=h2 j u hu;rwa [show off+1+j=off+(j+1) by omega] at this
theorem nX:∀ (l:List Value) (Q:Nat→Value→Prop),(∀ j v,l[j]? = some v→∃ v',Q j v'∧ay Γ v v')→∃ l',aD Γ l l'∧∀ j v',l'[j]? = some v'→Q j v'
 | [],Q,_=>⟨[],.nil,fun j v' h=>by simp at h⟩
 |v::l,Q,h=>by
  obtain⟨v',hq,hv⟩:=h 0 v rfl
  obtain⟨l',hl,hq'⟩:=nX l (fun j=>Q (j+1)) fun j u hu=>h (j+1) u (by simpa using hu)
  refine⟨v'::l',.cons _ _ _ _ hv hl,fun j u hu=>?_⟩
  cases j with
  |zero=>simp at hu;subst hu;exact hq
  |succ j=>simp at hu;exact hq' j u hu
theorem fB (hS:aR Γ W h w) {i:Nat} {c:PT Value} {ro:Bool} (hb:h.get i=some (.cells c ro)) {a a':Addr} (ha:Γ.addr a a') (hi:a.block=i) {m:Nat} {l:List Value}
  (hr:aQ c a.off m=some l):∃ l',aD Γ l l'∧(loadCells a' m).run P w = .ok ⟨l'⟩ w:=by
 obtain⟨hlen,Ip⟩:=gM m c a.off l hr
 obtain⟨l',hl,hq⟩:=nX (Γ:=Γ) l (fun j v'=>w.cell? (a'.add j)=some v') fun j v hv=>by
  obtain⟨v',e,r⟩:=hS.cell hb (Ip j v hv) ha hi (j:=j) rfl
  exact⟨v',e,r⟩
 refine⟨l',hl,?_⟩
 have:=run_loadCells_list (P:=P) w a' l' hq
 rw[hl.length,hlen] at this
 exact this
theorem k7 (hS:aR Γ W h w) {i:Nat} {c:PT Value} {ro:Bool} (hb:h.get i=some (.cells c ro)) {a a':Addr} {m cap size:Nat} (ha:Γ.addr' m cap a a') (hi:a.block=i) {l:List Value}
  (hr:aQ c a.off (m*size)=some l):∃ l',aD Γ l l'∧(loadCells a' (m*size)).run P w = .ok ⟨l'⟩ w:=by
 rcases ha with ha |ha
 ·exact fB hS hb ha hi hr
 ·obtain rfl:m=0:=by rcases ha with ha |ha<;>exact ha.1
  rw[Nat.zero_mul] at hr ⊢
  simp only[aQ,Option.some.injEq] at hr
  subst hr
  exact⟨[],.nil,by simp[loadCells,loadCellsFrom]⟩
theorem rE {t:TypeId} {x x':Value} (hx:ay Γ x x'):dZ P Γ (eu P t x) (Instr.loadAt t x') ay:=by
 intro W h n w hS
 unfold eu
 split
 ·rename_i a i d hi hd
  cases hx with
  |ptr _ a' ha=>
   refine ah.get fun B hB=>?_
   cases B with
   |map=>exact ah.fail
   |iter=>exact ah.fail
   |loop=>exact ah.fail
   |deferred=>exact ah.fail
   |cells c ro=>
    dsimp only
    have hrun:(Instr.loadAt t (.pointer (some a'))).run P w=(loadVar t a').run P w:=by simp[Instr.loadAt,Instr.sureAddr]
    cases nj:isAgg d with
    |true=>
     simp only[cond_true]
     split
     ·rename_i l hl
      obtain⟨l',hl',hr⟩:=fB (P:=P) hS hB ha rfl hl
      refine ah.ok hS (b := .agg ⟨l'⟩) ?_ (.agg _ _ hl')
      rw[hrun]
      simp[loadVar,kG hd,nj,bn hi,hr]
     ·exact ah.fail
    |false=>
     simp only[cond_false]
     split
     ·rename_i v hv
      obtain⟨v',e,r⟩:=hS.Be hB hv ha rfl
      refine ah.ok hS (b:=v') ?_ r
      rw[hrun]
      simp[loadVar,kG hd,nj,e]
     ·exact ah.fail
 ·exact ah.fail
theorem aR.congr {h':PT aj} (hS:aR Γ W h w) (e:∀ k,h'.get k=h.get k):aR Γ W h' w:=
 ⟨hS.below,hS.fz,fun i B hi=>hS.live i B (by rw[←e];exact hi),fun i j B B' b s b' s' hij hi hj=>hS.jf i j B B' b s b' s' hij (by rw[←e];exact hi) (by rw[←e];exact hj),hS.dom,hS.eT,hS.fin,fun i c ro hi=>hS.rows i c ro (by rw[←e];exact hi)⟩
theorem PT.uA {α:Type} (t:PT α) (i:Nat) (u v:Option α) (k:Nat):((t.set i u).set i v).get k=(t.set i v).get k:=by
 simp only[PT.aU];split<;>rfl
theorem dI {i:Nat} {a a':Addr} (hi:a.block=i):∀ (l l':List Value) (c c':PT Value) (j:Nat) (h:PT aj) (w:World),Γ.addr a a'→aR Γ W h w→h.get i=some (.cells c false)→aD Γ l l'→
  bG c (a.off+j) l=some c'→∃ w',(storeCells a' l' j).run P w = .ok () w'∧aR Γ W (h.set i (some (.cells c' false))) w'
 | [],l',c,c',j,h,w,ha,hS,hb,hl,hw=>by
  cases hl
  simp only[bG,Option.some.injEq] at hw
  subst hw
  exact⟨w,rfl,hS.congr fun k=>by rw[PT.aU];split<;>simp_all⟩
 |v::l,l',c,c',j,h,w,ha,hS,hb,hl,hw=>by
  cases hl with
  |cons _ v' _ l' hv hl=>
   simp only[bG] at hw
   split at hw
   ·simp at hw
   ·rename_i u hu
    cases ho:br v with
    |false=>simp[ho] at hw
    |true=>
     simp only[ho,cond_true] at hw
     have pP:Γ.addr (iy a j) (a'.add j):=by
      obtain⟨s,e,o⟩:=ha.at_
      unfold Addr.add iy
      split
      ·rename_i hj;subst hj;exact⟨rfl,ha.spot',s,e,by simpa using o⟩
      ·exact⟨rfl,rfl,s,e,by simp[o,Nat.add_assoc]⟩
     have hst:=hS.setCell hb pP hi hv (by simp[iy,hu])
     obtain⟨u',hu',_⟩:=hS.cell hb hu ha hi (j:=j) rfl
     have hfz:=hS.frozen hb ha hi j
     obtain⟨w',hrun,gj⟩:=dI hi l l' (c.set (a.off+j) (some v)) c' (j+1) _ _ ha hst (by simp[PT.eH,iy]) hl hw
     refine⟨w',?_,gj.congr fun k=>(PT.uA _ _ _ _ _).symm⟩
     simp only[storeCells,Sem.run_bind,run_store P w _ _ .plain (hv.oneCell' ho),hu',hfz]
     simpa using hrun
theorem wH {t:TypeId} {x x' v v':Value} (hx:ay Γ x x') (hv:ay Γ v v'):dZ P Γ (pE P t x v) (Instr.storeAt t x' v') (fun _ _ _=>True):=by
 intro W h n w hS
 unfold pE
 split
 ·rename_i a i hi
  cases hx with
  |ptr _ a' ha=>
   cases hsz:Nat.beq v.cells.toList.length i.size with
   |false=>exact ah.fail
   |true=>
    have hsz:=Nat.eq_of_beq_eq_true hsz
    simp only[cond_true]
    refine ah.get fun B hB=>?_
    split
    ·rename_i c
     split
     ·rename_i c' GV
      obtain⟨w',hr,gj⟩:=dI (P:=P) (i:=a.block) rfl _ _ c c' 0 h w ha hS hB hv.cells GV
      refine ah.set (w':=w') (e':=pure ()) ?_ (ah.ok gj rfl trivial)
      have:v'.cells.size=i.size:=by rw[←hsz,←hv.cells.length];simp
      simp only[Instr.storeAt,Instr.sureAddr,Sem.run_bind,Sem.run_pure,Result.andThen_ok,storeVar,bn hi,this,ne_eq,not_true_eq_false,if_false]
      exact hr
     ·exact ah.fail
    ·exact ah.fail
 ·exact ah.fail
theorem pQ {l:List Value} {cs:Array Value} (hl:aD Γ l cs.toList) (el:TypeId):dZ P Γ (newRow l) (do pure (.pointer (some (←Go.newRow el cs))):Sem Value) ay:=by
 intro W h n w hS
 refine ah.new fun hn=>?_
 obtain⟨aI,hst,hb,_,gj⟩:=hS.jg hn l cs el (fun i v hv=>by simpa using hl.get hv)
 refine⟨aI,w.alloc (.cells cs el),pure (.pointer (some ⟨w.heap.size,0,none⟩)),hst,by simp[Go.newRow],ah.ok gj rfl ?_⟩
 exact .ptr _ _ ⟨rfl,rfl,0,by simpa using hb,by simp⟩
theorem wI {t:TypeId}:dZ P Γ (pF P t) (Instr.alloc t true (.tuple #[])) ay:=by
 intro W h n w hS
 unfold pF
 split
 ·rename_i z hz
  obtain⟨hrun,hrel⟩:=b_ hz
  refine ah.congr (e':=do pure (.pointer (some (←Go.newRow t z.cells)))) (w':=w) ?_ (pQ (hrel Γ).cells t W h n w hS)
  simp[Instr.alloc,hrun,newVar]
 ·exact ah.fail
theorem EB {t:TypeId} {v v':Value} (hv:ay Γ v v'):dZ P Γ (newRow v.cells.toList) (Instr.box t v') ay:=by
 intro W h n w hS
 exact ah.congr (e':=do pure (.pointer (some (←Go.newRow t v'.cells)))) (w':=w) (by simp[Instr.box,newVar]) (pQ hv.cells t W h n w hS)
theorem aV.addr.add {a a':Addr} (ha:Γ.addr a a') (k:Nat):Γ.addr (iy a k) (a'.add k):=by
 obtain⟨s,e,o⟩:=ha.at_
 unfold Addr.add iy
 split
 ·rename_i hj;subst hj;exact⟨rfl,ha.spot',s,e,by simpa using o⟩
 ·exact⟨rfl,rfl,s,e,by simp[o,Nat.add_assoc]⟩
theorem pR {s:TypeId} {x x':Value} {f:Nat} (hx:ay Γ x x'):dZ P Γ (gC P s x f) (Instr.fieldAt s x' f) ay:=by
 intro W h n w hS
 unfold gC
 split
 ·rename_i a fs hd
  split
  ·rename_i fd hf
   split
   ·rename_i i hi
    cases hz:Nat.beq i.size 0 with
    |true=>exact ah.fail
    |false=>
     have hz:i.size≠0:=fun e=>by rw[e] at hz;exact Bool.noConfusion hz
     cases hx with
     |ptr _ a' ha=>
      have hf':fs[f]? = some fd:=by simpa using hf
      refine ah.ok hS (b := .pointer (some (a'.add fd.offset))) ?_ (.ptr _ _ (ha.add _))
      simp[Instr.fieldAt,az hd,hf',Instr.sureAddr,fieldPlace,bn hi,hz]
   ·exact ah.fail
  ·exact ah.fail
 ·exact ah.fail
theorem dV {t:TypeId} {cs cs':List Value} {off:Nat} {v:Value} (hc:aD Γ cs cs') (he:gW P t cs off=some v):
  ∃ v',(∀ w,(part t ⟨cs'⟩ off).run P w = .ok v' w)∧ay Γ v v':=by
 unfold gW at he
 split at he
 ·rename_i i d hi hd
  cases nj:isAgg d with
  |true=>
   simp only[nj,cond_true,Option.some.injEq] at he
   subst he
   refine⟨.agg ⟨(cs'.drop off).take i.size⟩,fun w=>?_,.agg _ _ ((hc.drop off).take i.size)⟩
   simp[part,kG hd,nj,bn hi,List.extract]
  |false=>
   simp only[nj,cond_false] at he
   obtain⟨v',e,r⟩:=hc.get he
   refine⟨v',fun w=>?_,r⟩
   simp[part,kG hd,nj,e]
 ·simp at he
theorem wJ {t:TypeId} {x x':Value} {f:Nat} (hx:ay Γ x x'):dZ P Γ (pH P t x f) (Instr.field t x' f) ay:=by
 intro W h n w hS
 unfold pH
 split
 ·rename_i cs fs hd
  split
  ·rename_i fd hf
   cases hx with
   |agg l l' hl=>
    unfold AP.opt
    split
    ·rename_i v hv
     obtain⟨v',hr,hrel⟩:=dV hl hv
     have hf':fs[f]? = some fd:=by simpa using hf
     refine ah.ok hS (b:=v') ?_ hrel
     simp[Instr.field,az hd,hf',asAgg,hr]
    ·exact ah.fail
  ·exact ah.fail
 ·exact ah.fail
theorem cX {v v':Value} {k:Nat} (h:ay Γ v v') (e:asNat v=some k):∃ kd,v' = .int kd (k:Int):=by
 unfold asNat at e
 split at e
 ·obtain rfl:=Option.some.inj e;cases h;exact⟨_,rfl⟩
 ·simp at e
theorem pS {t:TypeId} {x x' i i':Value} (hx:ay Γ x x') (hi:ay Γ i i'):dZ P Γ (gD P t x i) (Instr.indexAt t x' i') ay:=by
 intro W h n w hS
 unfold gD
 split
 ·rename_i len e a k hd hk
  split
  ·rename_i j hj
   cases hlt:Nat.blt k len with
   |false=>exact ah.fail
   |true=>
    have hlt:k<len:=Nat.blt_eq.mp hlt
    obtain⟨kd,rfl⟩:=cX hi hk
    cases hx with
    |ptr _ a' ha=>
     refine ah.ok hS (b := .pointer (some (a'.add (k*j.size)))) ?_ (.ptr _ _ (ha.add _))
     have h1:(0:Int)≤k∧(k:Int)<len:=⟨by omega,by omega⟩
     simp[Instr.indexAt,asIntOf,az hd,Instr.sureAddr,bn hj,h1,hlt]
  ·exact ah.fail
 ·rename_i e a len cap k hd hk
  split
  ·rename_i j hj
   cases hlt:Nat.blt k len with
   |false=>exact ah.fail
   |true=>
    have hlt:k<len:=Nat.blt_eq.mp hlt
    obtain⟨kd,rfl⟩:=cX hi hk
    cases hx with
    |slice _ a' _ _ c' ha hc=>
     have ha:=ha.exact (.inl (by omega))
     refine ah.ok hS (b := .pointer (some (a'.add (k*j.size)))) ?_ (.ptr _ _ (ha.add _))
     have h1:(0:Int)≤k∧(k:Int)<len:=⟨by omega,by omega⟩
     simp[Instr.indexAt,asIntOf,az hd,bn hj,h1,hlt]
  ·exact ah.fail
 ·exact ah.fail
theorem zn {s:ByteArray} {k:Nat} {b:UInt8} (hb:s.data.toList[k]? = some b):s[k]? = some b:=by
 have h:s.data[k]? = some b:=by simpa using hb
 rw[getElem?_def]
 obtain⟨hlt,he⟩:=Array.getElem?_eq_some_iff.1 h
 have hlt':k<s.size:=hlt
 rw[dif_pos hlt']
 exact congrArg some he
theorem wK {t:TypeId} {x x' i i':Value} (hx:ay Γ x x') (hi:ay Γ i i'):dZ P Γ (ny P t x i) (Instr.index t x' i') ay:=by
 intro W h n w hS
 unfold ny
 split
 ·rename_i len e cs k hd hk
  split
  ·rename_i j hj
   cases hlt:Nat.blt k len with
   |false=>exact ah.fail
   |true=>
    have hlt:k<len:=Nat.blt_eq.mp hlt
    obtain⟨kd,rfl⟩:=cX hi hk
    cases hx with
    |agg l l' hl=>
     simp only[cond_true]
     unfold AP.opt
     split
     ·rename_i v hv
      obtain⟨v',hr,hrel⟩:=dV hl hv
      refine ah.ok hS (b:=v') ?_ hrel
      have h1:(0:Int)≤k∧(k:Int)<len:=⟨by omega,by omega⟩
      simp[Instr.index,asIntOf,az hd,bn hj,h1,hr,hlt]
     ·exact ah.fail
  ·exact ah.fail
 ·rename_i s k hd hk
  split
  ·rename_i b hb
   obtain⟨kd,rfl⟩:=cX hi hk
   cases hx
   refine ah.ok hS (b := .int .u8 b.toNat) ?_ (.int _ _)
   have:s[k]? = some b:=zn hb
   simp[Instr.index,asIntOf,az hd,this]
  ·exact ah.fail
 ·exact ah.fail
end
end Go.Am
