/-
A part.
-/
import Derived.Test.YtofmbmclopgldaaGreatAmD
set_option linter.all false
namespace Go.Am
open Go.RowKit
section
variable {P:Program} {Γ:bL} {W w:World} {h:PT aj} {n:Nat}
theorem aE{t:TypeId}{d:TypeDesc}(h:P.underlying t=some d)(w:World):(underlying t).run P w = .ok d w:=run_underlying h w
theorem eO{t:TypeId}{i:TypeInfo}(h:P.info? t=some i)(w:World):(typeInfo t).run P w = .ok i w:=by
 simp[typeInfo,h]
theorem bS{t:TypeId}{i:TypeInfo}(h:P.info? t=some i)(w:World):(sizeOf t).run P w = .ok i.size w:=by
 simp[sizeOf,eO h]
theorem pZ{t:TypeId}{d:TypeDesc}(h:P.underlying t=some d)(w:World):(Go.isAgg t).run P w = .ok (Am.isAgg d) w:=by
 simp only[Go.isAgg,Sem.run_bind,aE h,Result.andThen_ok];cases d<;>rfl
theorem dS{t:TypeId}{z:Value}(h:zeroOf P t=some z):(∀ w,(zeroValue t).run P w = .ok z w)∧∀ Γ,aD Γ z z:=by
 unfold zeroOf at h;cases hi:P.info? t with
 |none=>simp[hi] at h
 |some i=>
  simp only[hi] at h;cases hz:i.zero with
  |none=>simp[hz] at h
  |some z'=>
   simp only[hz] at h;cases hf:flat 4 z' with
   |false=>simp[hf] at h
   |true=>
    obtain rfl:z'=z:=by simpa [hf] using h
    exact⟨fun w=>by simp[zeroValue,eO hi,hz],fun Γ=>C_ 4 _ hf⟩
theorem aD.cells{v v':Value}(h:aD Γ v v'):aM Γ v.cells.toList v'.cells.toList:=by
 cases h<;>first
  | (rename_i h;exact h)
  | (refine .cons _ _ _ _ ?_ .nil;constructor<;>assumption)
theorem aD.bw{v v':Value}(h:aD Γ v v'):bw v'=bw v:=by cases h<;>rfl
theorem aD.oneCell'{v v':Value}(h:aD Γ v v')(ho:Am.bw v=true):v'.oneCell'=true:=by cases h<;>first|rfl|simp[Am.bw] at ho
theorem kM:∀ (m:Nat) (c:PT Value) (off:Nat) (l:List Value),aW c off m=some l→l.length=m∧∀ j v,l[j]? = some v→c.get (off+j)=some v
 |0,c,off,l,h=>by simp[aW] at h;subst h;simp
 |m+1,c,off,l,h=>by
  simp only[aW] at h;split at h
  ·simp at h
  ·rename_i v hv;split at h
   ·simp at h
   ·rename_i l' hl';obtain rfl:v::l'=l:=by simpa using h
    obtain⟨h1,h2⟩:=kM m c (off+1) l' hl';refine⟨by simp[h1],fun j u hu=>?_⟩;cases j with
    |zero=>simp at hu;subst hu;exact hv
    |succ j=>simp at hu;have:=h2 j u hu;rwa [show off+1+j=off+(j+1) by omega] at this
theorem uF:∀ (l:List Value) (Q:Nat→Value→Prop),(∀ j v,l[j]? = some v→∃ v',Q j v'∧aD Γ v v')→∃ l',aM Γ l l'∧∀ j v',l'[j]? = some v'→Q j v'
 | [],Q,_=>⟨[],.nil,fun j v' h=>by simp at h⟩
 |v::l,Q,h=>by
  obtain⟨v',hq,hv⟩:=h 0 v rfl;obtain⟨l',hl,hq'⟩:=uF l (fun j=>Q (j+1)) fun j u hu=>h (j+1) u (by simpa using hu);refine⟨v'::l',.cons _ _ _ _ hv hl,fun j u hu=>?_⟩;cases j with
  |zero=>simp at hu;subst hu;exact hq
  |succ j=>simp at hu;exact hq' j u hu
theorem jG(hS:bK Γ W h w){i:Nat}{c:PT Value}{ro:Bool}(hb:h.get i=some (.cells c ro)){a a':Addr}(ha:Γ.addr a a')(hi:a.block=i){m:Nat}{l:List Value}
  (hr:aW c a.off m=some l):∃ l',aM Γ l l'∧(loadCells a' m).run P w = .ok ⟨l'⟩ w:=by
 obtain⟨hlen,XS⟩:=kM m c a.off l hr;obtain⟨l',hl,hq⟩:=uF (Γ:=Γ) l (fun j v'=>w.cell? (a'.add j)=some v') fun j v hv=>by
  obtain⟨v',e,r⟩:=hS.cell hb (XS j v hv) ha hi (j:=j) rfl;exact⟨v',e,r⟩
 refine⟨l',hl,?_⟩;have:=run_loadCells_list (P:=P) w a' l' hq;rw[hl.length,hlen] at this;exact this
theorem qE(hS:bK Γ W h w){i:Nat}{c:PT Value}{ro:Bool}(hb:h.get i=some (.cells c ro)){a a':Addr}{m cap size:Nat}(ha:Γ.addr' m cap a a')(hi:a.block=i){l:List Value}
  (hr:aW c a.off (m*size)=some l):∃ l',aM Γ l l'∧(loadCells a' (m*size)).run P w = .ok ⟨l'⟩ w:=by
 rcases ha with ha |ha
 ·exact jG hS hb ha hi hr
 ·obtain rfl:m=0:=by rcases ha with ha |ha<;>exact ha.1
  rw[Nat.zero_mul] at hr ⊢;simp only[aW,Option.some.injEq] at hr;subst hr;exact⟨[],.nil,by simp[loadCells,loadCellsFrom]⟩
theorem zQ{t:TypeId}{x x':Value}(hx:aD Γ x x'):iA P Γ (fG P t x) (Instr.loadAt t x') aD:=by
 intro W h n w hS;unfold fG;split
 ·rename_i a i d hi hd;cases hx with
  |ptr _ a' ha=>
   refine ak.get fun B hB=>?_;cases B with
   |map=>exact ak.fail
   |iter=>exact ak.fail
   |loop=>exact ak.fail
   |deferred=>exact ak.fail
   |cells c ro=>
    dsimp only;have hrun:(Instr.loadAt t (.pointer (some a'))).run P w=(loadVar t a').run P w:=by simp[Instr.loadAt,Instr.sureAddr]
    cases tL:isAgg d with
    |true=>
     simp only[cond_true];split
     ·rename_i l hl;obtain⟨l',hl',hr⟩:=jG (P:=P) hS hB ha rfl hl;refine ak.ok hS (b := .agg ⟨l'⟩) ?_ (.agg _ _ hl');rw[hrun];simp[loadVar,pZ hd,tL,bS hi,hr]
     ·exact ak.fail
    |false=>
     simp only[cond_false];split
     ·rename_i v hv;obtain⟨v',e,r⟩:=hS.Me hB hv ha rfl;refine ak.ok hS (b:=v') ?_ r;rw[hrun];simp[loadVar,pZ hd,tL,e]
     ·exact ak.fail
 ·exact ak.fail
theorem bK.congr{h':PT aj}(hS:bK Γ W h w)(e:∀ k,h'.get k=h.get k):bK Γ W h' w:=
 ⟨hS.below,hS.fz,fun i B hi=>hS.live i B (by rw[←e];exact hi),fun i j B B' b s b' s' hij hi hj=>hS.ng i j B B' b s b' s' hij (by rw[←e];exact hi) (by rw[←e];exact hj),hS.dom,hS.jo,hS.fin,fun i c ro hi=>hS.rows i c ro (by rw[←e];exact hi)⟩
theorem PT.Dd{α:Type}(t:PT α)(i:Nat)(u v:Option α)(k:Nat):((t.set i u).set i v).get k=(t.set i v).get k:=by
 simp only[PT.bC];split<;>rfl
theorem gF{i:Nat}{a a':Addr}(hi:a.block=i):∀ (l l':List Value) (c c':PT Value) (j:Nat) (h:PT aj) (w:World),Γ.addr a a'→bK Γ W h w→h.get i=some (.cells c false)→aM Γ l l'→
  bN c (a.off+j) l=some c'→∃ w',(storeCells a' l' j).run P w = .ok () w'∧bK Γ W (h.set i (some (.cells c' false))) w'
 | [],l',c,c',j,h,w,ha,hS,hb,hl,hw=>by
  cases hl;simp only[bN,Option.some.injEq] at hw;subst hw;exact⟨w,rfl,hS.congr fun k=>by rw[PT.bC];split<;>simp_all⟩
 |v::l,l',c,c',j,h,w,ha,hS,hb,hl,hw=>by
  cases hl with
  |cons _ v' _ l' hv hl=>
   simp only[bN] at hw;split at hw
   ·simp at hw
   ·rename_i u hu;cases ho:bw v with
    |false=>simp[ho] at hw
    |true=>
     simp only[ho,cond_true] at hw;have wQ:Γ.addr (kH a j) (a'.add j):=by
      obtain⟨s,e,o⟩:=ha.at_;unfold Addr.add kH;split
      ·rename_i hj;subst hj;exact⟨rfl,ha.spot',s,e,by simpa using o⟩
      ·exact⟨rfl,rfl,s,e,by simp[o,Nat.add_assoc]⟩
     have hst:=hS.setCell hb wQ hi hv (by simp[kH,hu]);obtain⟨u',hu',_⟩:=hS.cell hb hu ha hi (j:=j) rfl;have hfz:=hS.frozen hb ha hi j;obtain⟨w',hrun,ku⟩:=gF hi l l' (c.set (a.off+j) (some v)) c' (j+1) _ _ ha hst (by simp[PT.fN,kH]) hl hw;refine⟨w',?_,ku.congr fun k=>(PT.Dd _ _ _ _ _).symm⟩;simp only[storeCells,Sem.run_bind,run_store P w _ _ .plain (hv.oneCell' ho),hu',hfz]
     simpa using hrun
theorem FJ{t:TypeId}{x x' v v':Value}(hx:aD Γ x x')(hv:aD Γ v v'):iA P Γ (mW P t x v) (Instr.storeAt t x' v') (fun _ _ _=>True):=by
 intro W h n w hS;unfold mW;split
 ·rename_i a i hi;cases hx with
  |ptr _ a' ha=>
   cases hsz:Nat.beq v.cells.toList.length i.size with
   |false=>exact ak.fail
   |true=>
    have hsz:=Nat.eq_of_beq_eq_true hsz;simp only[cond_true];refine ak.get fun B hB=>?_;split
    ·rename_i c;split
     ·rename_i c' VM;obtain⟨w',hr,ku⟩:=gF (P:=P) (i:=a.block) rfl _ _ c c' 0 h w ha hS hB hv.cells VM;refine ak.set (w':=w') (e':=pure ()) ?_ (ak.ok ku rfl trivial);have:v'.cells.size=i.size:=by rw[←hsz,←hv.cells.length];simp
      simp only[Instr.storeAt,Instr.sureAddr,Sem.run_bind,Sem.run_pure,Result.andThen_ok,storeVar,bS hi,this,ne_eq,not_true_eq_false,if_false];exact hr
     ·exact ak.fail
    ·exact ak.fail
 ·exact ak.fail
theorem wR{l:List Value}{cs:Array Value}(hl:aM Γ l cs.toList)(el:TypeId):iA P Γ (newRow l) (do pure (.pointer (some (←Go.newRow el cs))):Sem Value) aD:=by
 intro W h n w hS;refine ak.new fun hn=>?_;obtain⟨aY,hst,hb,_,ku⟩:=hS.nh hn l cs el (fun i v hv=>by simpa using hl.get hv);refine⟨aY,w.alloc (.cells cs el),pure (.pointer (some ⟨w.heap.size,0,none⟩)),hst,by simp[Go.newRow],ak.ok ku rfl ?_⟩;exact .ptr _ _ ⟨rfl,rfl,0,by simpa using hb,by simp⟩
theorem FK{t:TypeId}:iA P Γ (qN P t) (Instr.alloc t true (.tuple #[])) aD:=by
 intro W h n w hS;unfold qN;split
 ·rename_i z hz;obtain⟨hrun,hrel⟩:=dS hz;refine ak.congr (e':=do pure (.pointer (some (←Go.newRow t z.cells)))) (w':=w) ?_ (wR (hrel Γ).cells t W h n w hS);simp[Instr.alloc,hrun,newVar]
 ·exact ak.fail
theorem Sg{t:TypeId}{v v':Value}(hv:aD Γ v v'):iA P Γ (newRow v.cells.toList) (Instr.box t v') aD:=by
 intro W h n w hS;exact ak.congr (e':=do pure (.pointer (some (←Go.newRow t v'.cells)))) (w':=w) (by simp[Instr.box,newVar]) (wR hv.cells t W h n w hS)
theorem bL.addr.add{a a':Addr}(ha:Γ.addr a a')(k:Nat):Γ.addr (kH a k) (a'.add k):=by
 obtain⟨s,e,o⟩:=ha.at_;unfold Addr.add kH;split
 ·rename_i hj;subst hj;exact⟨rfl,ha.spot',s,e,by simpa using o⟩
 ·exact⟨rfl,rfl,s,e,by simp[o,Nat.add_assoc]⟩
theorem wS{s:TypeId}{x x':Value}{f:Nat}(hx:aD Γ x x'):iA P Γ (gx P s x f) (Instr.fieldAt s x' f) aD:=by
 intro W h n w hS;unfold gx;split
 ·rename_i a fs hd;split
  ·rename_i fd hf;split
   ·rename_i i hi;cases hz:Nat.beq i.size 0 with
    |true=>exact ak.fail
    |false=>
     have hz:i.size≠0:=fun e=>by rw[e] at hz;exact Bool.noConfusion hz
     cases hx with
     |ptr _ a' ha=>
      have hf':fs[f]? = some fd:=by simpa using hf
      refine ak.ok hS (b := .pointer (some (a'.add fd.offset))) ?_ (.ptr _ _ (ha.add _));simp[Instr.fieldAt,aE hd,hf',Instr.sureAddr,fieldPlace,bS hi,hz]
   ·exact ak.fail
  ·exact ak.fail
 ·exact ak.fail
theorem iq{t:TypeId}{cs cs':List Value}{off:Nat}{v:Value}(hc:aM Γ cs cs')(he:k_ P t cs off=some v):
  ∃ v',(∀ w,(part t ⟨cs'⟩ off).run P w = .ok v' w)∧aD Γ v v':=by
 unfold k_ at he;split at he
 ·rename_i i d hi hd;cases tL:isAgg d with
  |true=>
   simp only[tL,cond_true,Option.some.injEq] at he;subst he;refine⟨.agg ⟨(cs'.drop off).take i.size⟩,fun w=>?_,.agg _ _ ((hc.drop off).take i.size)⟩;simp[part,pZ hd,tL,bS hi,List.extract]
  |false=>
   simp only[tL,cond_false] at he;obtain⟨v',e,r⟩:=hc.get he;refine⟨v',fun w=>?_,r⟩;simp[part,pZ hd,tL,e]
 ·simp at he
theorem FL{t:TypeId}{x x':Value}{f:Nat}(hx:aD Γ x x'):iA P Γ (qP P t x f) (Instr.field t x' f) aD:=by
 intro W h n w hS;unfold qP;split
 ·rename_i cs fs hd;split
  ·rename_i fd hf;cases hx with
   |agg l l' hl=>
    unfold AP.opt;split
    ·rename_i v hv;obtain⟨v',hr,hrel⟩:=iq hl hv;have hf':fs[f]? = some fd:=by simpa using hf
     refine ak.ok hS (b:=v') ?_ hrel;simp[Instr.field,aE hd,hf',asAgg,hr]
    ·exact ak.fail
  ·exact ak.fail
 ·exact ak.fail
theorem fO{v v':Value}{k:Nat}(h:aD Γ v v')(e:asNat v=some k):∃ kd,v' = .int kd (k:Int):=by
 unfold asNat at e;split at e
 ·obtain rfl:=Option.some.inj e;cases h;exact⟨_,rfl⟩
 ·simp at e
theorem wT{t:TypeId}{x x' i i':Value}(hx:aD Γ x x')(hi:aD Γ i i'):iA P Γ (eY P t x i) (Instr.indexAt t x' i') aD:=by
 intro W h n w hS;unfold eY;split
 ·rename_i len e a k hd hk;split
  ·rename_i j hj;cases hlt:Nat.blt k len with
   |false=>exact ak.fail
   |true=>
    have hlt:k<len:=Nat.blt_eq.mp hlt;obtain⟨kd,rfl⟩:=fO hi hk;cases hx with
    |ptr _ a' ha=>
     refine ak.ok hS (b := .pointer (some (a'.add (k*j.size)))) ?_ (.ptr _ _ (ha.add _));have h1:(0:Int)≤k∧(k:Int)<len:=⟨by omega,by omega⟩;simp[Instr.indexAt,asIntOf,aE hd,Instr.sureAddr,bS hj,h1,hlt]
  ·exact ak.fail
 ·rename_i e a len cap k hd hk;split
  ·rename_i j hj;cases hlt:Nat.blt k len with
   |false=>exact ak.fail
   |true=>
    have hlt:k<len:=Nat.blt_eq.mp hlt;obtain⟨kd,rfl⟩:=fO hi hk;cases hx with
    |slice _ a' _ _ c' ha hc=>
     have ha:=ha.exact (.inl qJ);refine ak.ok hS (b := .pointer (some (a'.add (k*j.size)))) ?_ (.ptr _ _ (ha.add _));have h1:(0:Int)≤k∧(k:Int)<len:=⟨by omega,by omega⟩;simp[Instr.indexAt,asIntOf,aE hd,bS hj,h1,hlt]
  ·exact ak.fail
 ·exact ak.fail
theorem JK{s:ByteArray}{k:Nat}{b:UInt8}(hb:s.data.toList[k]? = some b):s[k]? = some b:=by
 have h:s.data[k]? = some b:=by simpa using hb
 rw[getElem?_def];obtain⟨hlt,he⟩:=Array.getElem?_eq_some_iff.1 h;have hlt':k<s.size:=hlt;rw[dif_pos hlt'];exact congrArg some he
theorem FN{t:TypeId}{x x' i i':Value}(hx:aD Γ x x')(hi:aD Γ i i'):iA P Γ (oA P t x i) (Instr.index t x' i') aD:=by
 intro W h n w hS;unfold oA;split
 ·rename_i len e cs k hd hk;split
  ·rename_i j hj;cases hlt:Nat.blt k len with
   |false=>exact ak.fail
   |true=>
    have hlt:k<len:=Nat.blt_eq.mp hlt;obtain⟨kd,rfl⟩:=fO hi hk;cases hx with
    |agg l l' hl=>
     simp only[cond_true];unfold AP.opt;split
     ·rename_i v hv;obtain⟨v',hr,hrel⟩:=iq hl hv;refine ak.ok hS (b:=v') ?_ hrel;have h1:(0:Int)≤k∧(k:Int)<len:=⟨by omega,by omega⟩;simp[Instr.index,asIntOf,aE hd,bS hj,h1,hr,hlt]
     ·exact ak.fail
  ·exact ak.fail
 ·rename_i s k hd hk;split
  ·rename_i b hb;obtain⟨kd,rfl⟩:=fO hi hk;cases hx;refine ak.ok hS (b := .int .u8 b.toNat) ?_ (.int _ _);have:s[k]? = some b:=JK hb;simp[Instr.index,asIntOf,aE hd,this]
  ·exact ak.fail
 ·exact ak.fail
end
end Go.Am
