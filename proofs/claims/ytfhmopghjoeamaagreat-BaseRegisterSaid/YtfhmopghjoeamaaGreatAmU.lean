/-
  The abstract machine: an operation looks at its operands alone; the order's bookkeeping.
-/
import Derived.Test.YtfhmopghjoeamaaGreatAmT
set_option linter.unusedSimpArgs false
set_option linter.unusedVariables false
namespace Go.Am
open Go.RowKit
section
variable {P:Program} {O:Over} {ev:jd} {lim:Nat}
theorem zL {ρ ρ':Operand→Value} (o:Oper) (h:∀ x∈o.op.operands,ρ x=ρ' x):iE P ρ o=iE P ρ' o:=by
 obtain⟨dst,op,type,pos,after,guard⟩:=o
 have pairs:∀ ps:Array (Nat×Operand),(∀ x∈ps.map (·.2),ρ x=ρ' x)→
   (ps.toList.map fun p=>(p.1,ρ p.2))=(ps.toList.map fun p=>(p.1,ρ' p.2)):=fun ps hp=>
  List.map_congr_left fun p hm=>by
   rw[hp p.2 (Array.mem_map.2 ⟨p,by simpa using hm,rfl⟩)]
 have lists:∀ xs:Array Operand,(∀ x∈xs,ρ x=ρ' x)→xs.toList.map ρ=xs.toList.map ρ':=fun xs hx=>List.map_congr_left fun x hm=>hx x (by simpa using hm)
 cases op<;>simp only[Op.operands] at h<;>simp only[iE]
 case build t ps=>rw[pairs ps fun x hx=>h x (by simpa using hx)]
 case buildSlice t n ps=>rw[pairs ps fun x hx=>h x (by simpa using hx)]
 case makeFunc fn first captured=>
  rw[lists first fun x hx=>h x (by simp[hx]),lists captured fun x hx=>h x (by simp[hx])]
 case call c=>
  unfold yC
  rw[lists c.args fun x hx=>h x (by simp[Call.operands,hx])]
  cases hc:c.callee with
  |value f=>have hf:ρ f=ρ' f:=h f (by simp[Call.operands,hc]);simp only[hf]
  |invoke r m=>have hr:ρ r=ρ' r:=h r (by simp[Call.operands,hc]);simp only[hr]
  |builtin b=>rfl
 case makeMap t r=>cases r<;>simp_all
 case slice t x lo hi mx=>cases lo<;>cases hi<;>cases mx<;>simp_all
 all_goals (first |rfl | (simp_all;done))
theorem eval_congr {m m':Tm} {x:Operand} (h:∀ t,x = .tmp t→m.get t=m'.get t):m.eval x=m'.eval x:=by
 cases x with
 |tmp t=>exact h t rfl
 | _=>rfl
theorem val_congr {ρ ρ':Operand→Value} {o:Oper} (h:∀ x∈o.op.operands,ρ x=ρ' x) (s:HS):iJ P O ev lim ρ o s=iJ P O ev lim ρ' o s:=by
 unfold iJ
 rw[zL o h]
theorem tB {ops:List Oper} {m m':Tm} {o:Oper} (h:∀ t,t∈o.looksAt ⟨ops⟩→m.get t=m'.get t):bU ops m o=bU ops m' o:=by
 unfold bU
 cases hg:o.guard with
 |none=>rfl
 |some g=>
  obtain⟨j,want⟩:=g
  have:fF ops m j=fF ops m' j:=by
   unfold fF
   cases hj:ops[j]? with
   |none=>rfl
   |some oj=>
    cases hd:oj.dst with
    |none=>simp[hd]
    |some d=>
     have hin:d∈o.looksAt ⟨ops⟩:=by simp[Oper.looksAt,hg,hj,hd]
     simp only[hd,h d hin]
  simp only[this]
theorem uZ {ops:List Oper} {o:Oper} {m m₁ mD:Tm} {s s':HS} (e:lV P O ev lim ops o m s = .ok m₁ s') (h:∀ t,t∈o.looksAt ⟨ops⟩→mD.get t=m.get t) (hn:mD.n=m.n):
  ∃ m',lV P O ev lim ops o mD s = .ok m' s'∧m'.n=mD.n∧m'.fO=mD.fO∧m₁.n=m.n∧m₁.fO=m.fO∧(∀ t,o.dst≠some t→m'.get t=mD.get t∧m₁.get t=m.get t)∧∀ t,o.dst=some t→m'.get t=m₁.get t:=by
 unfold lV at e
 obtain⟨v,s₁,e₁,e₂⟩:=aX e
 have yL:cond (bU ops mD o) (iJ P O ev lim mD.eval o s) (.ok gI s) = .ok v s₁:=by
  rw[tB h,val_congr (ρ':=m.eval) (fun x hx=>eval_congr fun t ht=>h t (by
   subst ht
   exact List.mem_append_left _ (List.mem_filterMap.2 ⟨.tmp t,by simpa using hx,rfl⟩)))]
  exact e₁
 unfold iK at e₂
 cases hd:o.dst with
 |none=>
  simp only[hd,Tm.put] at e₂
  simp only[aW.ok.injEq] at e₂
  obtain⟨rfl,rfl⟩:=e₂
  exact⟨mD,by unfold lV;rw[yL];simp[bF,iK,hd,Tm.put],rfl,rfl,rfl,rfl,fun t _=>⟨rfl,rfl⟩,fun t ht=>by simp at ht⟩
 |some d=>
  simp only[hd,Tm.put] at e₂
  cases hb:Nat.blt d m.n with
  |false=>simp[hb] at e₂
  |true=>
   simp only[hb,cond_true,aW.ok.injEq] at e₂
   obtain⟨rfl,rfl⟩:=e₂
   refine⟨{ mD with t:=mD.t.set d (some v) },?_,rfl,rfl,rfl,rfl,fun t ht=>?_,fun t ht=>?_⟩
   ·unfold lV;rw[yL];simp[bF,iK,hd,Tm.put,hn,hb]
   ·have:t≠d:=fun e=>ht (by rw[e])
    simp[Tm.get,PT.aU,this]
   ·obtain rfl:d=t:=by simpa using ht
    simp[Tm.get,PT.aU]
structure MO (P:Program) (O:Over) (ev:jd) (ops r:List Oper) (x:Tm×List bI) (s':HS) (V:Nat→PT aj) (N:Nat→Nat) (M:Nat→Tm) (F:Nat→bI):Prop where
 step:∀ k o,r[k]? = some o→lV P O ev (N k) ops o (M k) ⟨V k,N k,[],[]⟩ = .ok (M (k+1)) ⟨V (k+1),N (k+1),(F k).rd,(F k).wr⟩
 BH:∀ k,k<r.length→x.2[k]? = some (F k)∧(F k).lo=N k∧(F k).hi=N (k+1)
 len:x.2.length=r.length
 mE:M r.length=x.1
 vE:V r.length=s'.heap
 nE:N r.length=s'.next
theorem u5 {ops:List Oper}:∀ (r:List Oper) (m:Tm) (h:PT aj) (n:Nat) (x:Tm×List bI) (s':HS),gV P O ev ops r m h n = .ok x s'→
  ∃ V N M F,MO P O ev ops r x s' V N M F∧V 0=h∧N 0=n∧M 0=m
 | [],m,h,n,x,s',e=>by
  simp only[gV,aW.ok.injEq] at e
  obtain⟨rfl,rfl⟩:=e
  exact⟨fun _=>h,fun _=>n,fun _=>m,fun _=>⟨0,0,[],[]⟩,⟨fun k o hk=>by simp at hk,fun k hk=>by simp at hk,rfl,rfl,rfl,rfl⟩,rfl,rfl,rfl⟩
 |o::r,m,h,n,x,s',e=>by
  simp only[gV] at e
  obtain⟨m₁,s₁,e₁,e₂⟩:=aX e
  obtain⟨x₁,s₂,e₃,e₄⟩:=aX e₂
  simp only[aW.ok.injEq] at e₄
  obtain⟨rfl,rfl⟩:=e₄
  obtain⟨V,N,M,F,q,rfl',hN,MP⟩:=u5 r m₁ s₁.heap s₁.next x₁ s₂ e₃
  refine⟨fun k=>match k with |0=>h |k+1=>V k,fun k=>match k with |0=>n |k+1=>N k,fun k=>match k with |0=>m |k+1=>M k,
   fun k=>match k with |0=>⟨n,s₁.next,s₁.rd,s₁.wr⟩ |k+1=>F k,⟨?_,?_,?_,?_,?_,?_⟩,rfl,rfl,rfl⟩
  ·intro k o' hk
   cases k with
   |zero=>
    obtain rfl:o=o':=by simpa using hk
    show lV P O ev n ops o m ⟨h,n,[],[]⟩ = .ok (M 0) ⟨V 0,N 0,s₁.rd,s₁.wr⟩
    rw[rfl',hN,MP]
    exact e₁
   |succ k=>exact q.step k o' (by simpa using hk)
  ·intro k hk
   cases k with
   |zero=>exact⟨rfl,rfl,hN.symm⟩
   |succ k=>exact q.BH k (by simpa using hk)
  ·simp[q.len]
  ·exact q.mE
  ·exact q.vE
  ·exact q.nE
theorem qi {A:Type} (T:Nat→Prop) (V:Nat→A):∀ i,(∀ k,k<i→ ¬T k→V (k+1)=V k)→
  (∃ k,k<i∧T k∧(∀ j,k<j→j<i→ ¬T j)∧V i=V (k+1))∨((∀ k,k<i→ ¬T k)∧V i=V 0)
 |0,_ => .inr ⟨fun k hk=>by omega,rfl⟩
 |i+1,hU=>by
  by_cases hT:T i
  ·exact .inl ⟨i,by omega,hT,fun j h1 h2=>by omega,rfl⟩
  ·have hV:=hU i (by omega) hT
   rcases qi T V i (fun k hk=>hU k (by omega)) with ⟨k,hk,P7,hno,hv⟩ | ⟨hno,hv⟩
   ·refine .inl ⟨k,by omega,P7,fun j h1 h2=>?_,hV.trans hv⟩
    rcases Nat.lt_or_ge j i with h |h
    ·exact hno j h1 h
    ·obtain rfl:j=i:=by omega
     exact hT
   ·refine .inr ⟨fun k hk=>?_,hV.trans hv⟩
    rcases Nat.lt_or_ge k i with h |h
    ·exact hno k h
    ·obtain rfl:k=i:=by omega
     exact hT
structure IG {A:Type} (Ok:A→A→Prop) (D T:Nat→Prop) (V:Nat→A) (v₀ vD:A):Prop where
 yM:∀ k,D k→T k→(∀ j,D j→k<j→ ¬T j)→Ok (V (k+1)) vD
 still:(∀ k,D k→ ¬T k)→Ok v₀ vD
theorem IG.at {A:Type} {Ok:A→A→Prop} (tr:∀ a b c,Ok a b→Ok b c→Ok a c) {D T:Nat→Prop} {V:Nat→A} {v₀ vD:A} {i:Nat} (h:IG Ok D T V v₀ vD) (hU:∀ k,k<i→ ¬T k→V (k+1)=V k)
  (h0:Ok (V 0) v₀) (hlo:∀ k,k<i→T k→D k) (hhi:∀ k,D k→T k→k<i):Ok (V i) vD:=by
 rcases qi T V i hU with ⟨k,hk,P7,hno,hv⟩ | ⟨hno,hv⟩
 ·rw[hv]
  exact h.yM k (hlo k hk P7) P7 fun j hD hkj hT=>hno j hkj (hhi j hD hT) hT
 ·rw[hv]
  exact tr _ _ _ h0 (h.still fun k hD hT=>hno k (hhi k hD hT) hT)
theorem IG.step {A:Type} {Ok:A→A→Prop} (tr:∀ a b c,Ok a b→Ok b c→Ok a c) {D D' T:Nat→Prop} {V:Nat→A} {v₀ vD T5:A} {i:Nat} (h:IG Ok D T V v₀ vD) (D9:∀ k,D' k↔D k∨k=i)
  (h1:T i→Ok (V (i+1)) T5) (h2: ¬ T i→Ok vD T5) (T6:∀ k,D k→T k→T i→k<i):IG Ok D' T V v₀ T5:=by
 refine⟨fun k hk hT hno=>?_,fun hno=>?_⟩
 ·rcases(D9 k).1 hk with hk |rfl
  ·by_cases AW:T i
   ·exact absurd AW (hno i ((D9 i).2 (.inr rfl)) (T6 k hk hT AW))
   ·exact tr _ _ _ (h.yM k hk hT fun j hj hkj=>hno j ((D9 j).2 (.inl hj)) hkj) (h2 AW)
  ·exact h1 hT
 ·exact tr _ _ _ (h.still fun k hk=>hno k ((D9 k).2 (.inl hk))) (h2 (hno i ((D9 i).2 (.inr rfl))))
theorem oB {acc:List Nat} {j:Nat}:∀ {es:List Edge},(gJ acc es).testBit j=true→∃ e∈es,Region.binds .any e=true∧(j=e.on∨(acc.getD e.on 0).testBit j=true)
 | [],h=>by simp[gJ] at h
 |e::r,h=>by
  rw[gJ] at h
  have rest:(gJ acc r).testBit j=true→∃ e'∈e::r,Region.binds .any e'=true∧(j=e'.on∨(acc.getD e'.on 0).testBit j=true):=fun h=>by
   obtain⟨e',h1,h2⟩:=oB (es:=r) h
   exact⟨e',List.mem_cons_of_mem e h1,h2⟩
  cases hb:Region.binds .any e with
  |false=>rw[hb] at h;exact rest h
  |true=>
   rw[hb] at h
   have h:(((2^e.on)|||(acc.getD e.on 0))|||(gJ acc r)).testBit j=true:=h
   rw[Nat.testBit_or,Nat.testBit_or,Bool.or_eq_true,Bool.or_eq_true,Nat.testBit_two_pow] at h
   rcases h with (h |h) |h
   ·exact⟨e,List.mem_cons_self,hb,.inl (by simpa using (of_decide_eq_true h).symm)⟩
   ·exact⟨e,List.mem_cons_self,hb,.inr h⟩
   ·exact rest h
theorem jV:∀ (r:List Oper) (acc:List Nat),∃ tl,aN acc r=acc++tl∧tl.length=r.length∧
  ∀ k o j,r[k]? = some o→(tl.getD k 0).testBit j=true→∃ e∈o.after.toList,Region.binds .any e=true∧(j=e.on∨(e.on<acc.length+k∧((acc++tl).getD e.on 0).testBit j=true))
 | [],acc=>⟨[],by simp[aN],rfl,fun k o j hk=>by simp at hk⟩
 |o::r,acc=>by
  obtain⟨tl,h1,h2,h3⟩:=jV r (acc++[gJ acc o.after.toList])
  refine⟨gJ acc o.after.toList::tl,by rw[aN,h1];simp,by simp[h2],fun k o' j hk hb=>?_⟩
  cases k with
  |zero=>
   obtain rfl:o=o':=by simpa using hk
   have hb:(gJ acc o.after.toList).testBit j=true:=by simpa using hb
   obtain⟨e,he,ES,q⟩:=oB hb
   refine⟨e,he,ES,q.imp id fun q=>?_⟩
   have hlt:e.on<acc.length:=by
    rcases Nat.lt_or_ge e.on acc.length with h |h
    ·exact h
    ·rw[List.getD_eq_getElem?_getD,List.getElem?_eq_none h] at q;simp at q
   refine⟨by omega,?_⟩
   rw[List.getD_eq_getElem?_getD,List.getElem?_append_left hlt,←List.getD_eq_getElem?_getD]
   exact q
  |succ k=>
   obtain⟨e,he,ES,q⟩:=h3 k o' j (by simpa using hk) (by simpa using hb)
   refine⟨e,he,ES,q.imp id fun ⟨q1,q2⟩=>⟨by simp at q1;omega,by simpa using q2⟩⟩
theorem BI {ops:List Oper} {k j:Nat} {o:Oper} (ho:ops[k]? = some o) (h:((aN [] ops).getD k 0).testBit j=true):
  ∃ e∈o.after.toList,Region.binds .any e=true∧(j=e.on∨(e.on<k∧((aN [] ops).getD e.on 0).testBit j=true)):=by
 obtain⟨tl,h1,h2,h3⟩:=jV ops []
 rw[h1] at h ⊢
 obtain⟨e,he,hb,q⟩:=h3 k o j ho (by simpa using h)
 exact⟨e,he,hb,q.imp id fun ⟨q1,q2⟩=>⟨by simpa using q1,q2⟩⟩
theorem qj {ops:List Oper} {D:Nat→Prop} (hD:∀ k o e,D k→ops[k]? = some o→e∈o.after→Region.binds .any e=true→D e.on):
  ∀ (k:Nat) (o:Oper) (j:Nat),ops[k]? = some o→(∀ e,e∈o.after→Region.binds .any e=true→D e.on)→((aN [] ops).getD k 0).testBit j=true→D j:=by
 intro k
 induction k using Nat.strongRecOn with
 |ind k ih=>
  intro o j ho hk hb
  obtain⟨e,he,ES,q⟩:=BI ho hb
  have XQ:=hk e (by simpa using he) ES
  rcases q with rfl | ⟨q1,q2⟩
  ·exact XQ
  ·have D5:k<ops.length:=(List.getElem?_eq_some_iff.1 ho).1
   obtain⟨o',ho'⟩:∃ o',ops[e.on]? = some o':=⟨ops[e.on]'(by omega),by simp[show e.on<ops.length by omega]⟩
   exact ih e.on q1 o' j ho' (fun e' he' hb'=>hD e.on o' e' XQ ho' he' hb') q2
theorem nJ {Mf:List Nat}:∀ {n i j:Nat},i<j→j<n→(Mf.getD j 0).testBit i=false→(i,j)∈aP Mf n
 |0,i,j,_,h,_=>by omega
 |n+1,i,j,hij,hj,hb=>by
  rw[aP,List.mem_append]
  rcases Nat.lt_or_ge j n with h |h
  ·exact .inl (nJ hij h hb)
  ·obtain rfl:j=n:=by omega
   refine .inr (List.mem_map.2 ⟨i,List.mem_filter.2 ⟨List.mem_range.2 hij,?_⟩,rfl⟩)
   rw[hb];rfl
theorem ql:∀ {r:List Oper} {i:Nat},oY i r=true→∀ k o,r[k]? = some o→∀ e∈o.after,Region.binds .any e=true→e.on<i+k
 | [],i,h,k,o,hk=>by simp at hk
 |o::r,i,h,k,o',hk=>by
  intro e he hb
  rw[oY,Bool.and_eq_true] at h
  cases k with
  |zero=>
   obtain rfl:o=o':=by simpa using hk
   have:=List.all_eq_true.1 h.1 e (by simpa using he)
   rw[hb] at this
   have:=Nat.blt_eq.mp (by simpa using this)
   omega
  |succ k=>
   have:=ql h.2 k o' (by simpa using hk) e he hb
   have e2:Nat.succ i=i+1:=rfl
   omega
theorem jW {a b:List Nat} (h:meets a b=false) {x:Nat} (ha:x∈a) (hb:x∈b):False:=by
 have:meets a b=true:=List.any_eq_true.2 ⟨x,ha,List.any_eq_true.2 ⟨x,hb,Nat.beq_refl x⟩⟩
 rw[h] at this;exact Bool.noConfusion this
theorem iQ {a:List Nat} {lo hi:Nat} (h:bD a lo hi=false) {x:Nat} (ha:x∈a): ¬ (lo≤x∧x<hi):=by
 rintro ⟨h1,h2⟩
 have:bD a lo hi=true:=List.any_eq_true.2 ⟨x,ha,by rw[Bool.and_eq_true];exact⟨Nat.ble_eq.mpr h1,Nat.blt_eq.mpr h2⟩⟩
 rw[h] at this;exact Bool.noConfusion this
theorem BJ {p q:Nat→Bool} (h:∀ k,q k=true→p k=true):∀ {l:List Nat} {i:Nat},i∈l→p i=true→q i=false→l.countP q<l.countP p
 | [],i,hi,_,_=>by simp at hi
 |x::l,i,hi,hp,hq=>by
  have hle:l.countP q≤l.countP p:=List.countP_mono_left fun k _ hk=>h k hk
  rcases List.mem_cons.1 hi with rfl |hi
  ·rw[List.countP_cons_of_pos hp,List.countP_cons_of_neg (by simp[hq])];omega
  ·have:=BJ h hi hp hq
   rw[List.countP_cons,List.countP_cons]
   have:(if q x=true then 1 else 0)≤(if p x=true then 1 else 0:Nat):=by
    by_cases hx:q x=true
    ·simp[hx,h x hx]
    ·simp[hx]
   omega
end
end Go.Am
