/-
  The abstract machine: an operation looks at its operands alone; the order's bookkeeping.
-/
import Derived.Test.YtofmbmclopgldaaGreatAmT
set_option linter.unusedSimpArgs false
set_option linter.unusedVariables false
namespace Go.Am
open Go.RowKit
section
variable {P:Program} {O:Over} {ev:fU} {lim:Nat}
theorem C7 {ρ ρ':Operand→Value} (o:Oper) (h:∀ x∈o.op.operands,ρ x=ρ' x):jk P ρ o=jk P ρ' o:=by
 obtain⟨dst,op,type,pos,after,guard⟩:=o
 have pairs:∀ ps:Array (Nat×Operand),(∀ x∈ps.map (·.2),ρ x=ρ' x)→
   (ps.toList.map fun p=>(p.1,ρ p.2))=(ps.toList.map fun p=>(p.1,ρ' p.2)):=fun ps hp=>
  List.map_congr_left fun p hm=>by
   rw[hp p.2 (Array.mem_map.2 ⟨p,by simpa using hm,rfl⟩)]
 have lists:∀ xs:Array Operand,(∀ x∈xs,ρ x=ρ' x)→xs.toList.map ρ=xs.toList.map ρ':=fun xs hx=>List.map_congr_left fun x hm=>hx x (by simpa using hm)
 cases op<;>simp only[Op.operands] at h<;>simp only[jk]
 case build t ps=>rw[pairs ps fun x hx=>h x (by simpa using hx)]
 case buildSlice t n ps=>rw[pairs ps fun x hx=>h x (by simpa using hx)]
 case makeFunc fn first captured=>
  rw[lists first fun x hx=>h x (by simp[hx]),lists captured fun x hx=>h x (by simp[hx])]
 case call c=>
  unfold oh
  rw[lists c.args fun x hx=>h x (by simp[Call.operands,hx])]
  cases hc:c.callee with
  |value f=>have hf:ρ f=ρ' f:=h f (by simp[Call.operands,hc]);simp only[hf]
  |invoke r m=>have hr:ρ r=ρ' r:=h r (by simp[Call.operands,hc]);simp only[hr]
  |builtin b=>rfl
 case makeMap t r=>cases r<;>simp_all
 case slice t x lo hi mx=>cases lo<;>cases hi<;>cases mx<;>simp_all
 all_goals (first |rfl | (simp_all;done))
theorem eval_congr {m m':Tm} {x:Operand} (h:∀ t,x = .tmp t→m.get t=m'.get t):m.eval x=m'.eval x:=by
 cases x with
 |tmp t=>exact h t rfl
 | _=>rfl
theorem val_congr {ρ ρ':Operand→Value} {o:Oper} (h:∀ x∈o.op.operands,ρ x=ρ' x) (s:HS):iE P O ev lim ρ o s=iE P O ev lim ρ' o s:=by
 unfold iE
 rw[C7 o h]
theorem vR {ops:List Oper} {m m':Tm} {o:Oper} (h:∀ t,t∈o.looksAt ⟨ops⟩→m.get t=m'.get t):bJ ops m o=bJ ops m' o:=by
 unfold bJ
 cases hg:o.guard with
 |none=>rfl
 |some g=>
  obtain⟨j,want⟩:=g
  have:fc ops m j=fc ops m' j:=by
   unfold fc
   cases hj:ops[j]? with
   |none=>rfl
   |some oj=>
    cases hd:oj.dst with
    |none=>simp[hd]
    |some d=>
     have hin:d∈o.looksAt ⟨ops⟩:=by simp[Oper.looksAt,hg,hj,hd]
     simp only[hd,h d hin]
  simp only[this]
theorem ya {ops:List Oper} {o:Oper} {m m₁ mD:Tm} {s s':HS} (e:kS P O ev lim ops o m s = .ok m₁ s') (h:∀ t,t∈o.looksAt ⟨ops⟩→mD.get t=m.get t) (hn:mD.n=m.n):
  ∃ m',kS P O ev lim ops o mD s = .ok m' s'∧m'.n=mD.n∧m'.eS=mD.eS∧m₁.n=m.n∧m₁.eS=m.eS∧(∀ t,o.dst≠some t→m'.get t=mD.get t∧m₁.get t=m.get t)∧∀ t,o.dst=some t→m'.get t=m₁.get t:=by
 unfold kS at e
 obtain⟨v,s₁,e₁,e₂⟩:=bq e
 have BQ:cond (bJ ops mD o) (iE P O ev lim mD.eval o s) (.ok cZ s) = .ok v s₁:=by
  rw[vR h,val_congr (ρ':=m.eval) (fun x hx=>eval_congr fun t ht=>h t (by
   subst ht
   exact List.mem_append_left _ (List.mem_filterMap.2 ⟨.tmp t,by simpa using hx,rfl⟩)))]
  exact e₁
 unfold iF at e₂
 cases hd:o.dst with
 |none=>
  simp only[hd,Tm.put] at e₂
  simp only[aH.ok.injEq] at e₂
  obtain⟨rfl,rfl⟩:=e₂
  exact⟨mD,by unfold kS;rw[BQ];simp[bH,iF,hd,Tm.put],rfl,rfl,rfl,rfl,fun t _=>⟨rfl,rfl⟩,fun t ht=>by simp at ht⟩
 |some d=>
  simp only[hd,Tm.put] at e₂
  cases hb:Nat.blt d m.n with
  |false=>simp[hb] at e₂
  |true=>
   simp only[hb,cond_true,aH.ok.injEq] at e₂
   obtain⟨rfl,rfl⟩:=e₂
   refine⟨{ mD with t:=mD.t.set d (some v) },?_,rfl,rfl,rfl,rfl,fun t ht=>?_,fun t ht=>?_⟩
   ·unfold kS;rw[BQ];simp[bH,iF,hd,Tm.put,hn,hb]
   ·have:t≠d:=fun e=>ht (by rw[e])
    simp[Tm.get,PT.aZ,this]
   ·obtain rfl:d=t:=by simpa using ht
    simp[Tm.get,PT.aZ]
structure Sy (P:Program) (O:Over) (ev:fU) (ops r:List Oper) (x:Tm×List bD) (s':HS) (V:Nat→PT ak) (N:Nat→Nat) (M:Nat→Tm) (F:Nat→bD):Prop where
 step:∀ k o,r[k]? = some o→kS P O ev (N k) ops o (M k) ⟨V k,N k,[],[]⟩ = .ok (M (k+1)) ⟨V (k+1),N (k+1),(F k).rd,(F k).wr⟩
 EY:∀ k,k<r.length→x.2[k]? = some (F k)∧(F k).lo=N k∧(F k).hi=N (k+1)
 len:x.2.length=r.length
 mE:M r.length=x.1
 vE:V r.length=s'.heap
 nE:N r.length=s'.next
theorem yc {ops:List Oper}:∀ (r:List Oper) (m:Tm) (h:PT ak) (n:Nat) (x:Tm×List bD) (s':HS),gY P O ev ops r m h n = .ok x s'→
  ∃ V N M F,Sy P O ev ops r x s' V N M F∧V 0=h∧N 0=n∧M 0=m
 | [],m,h,n,x,s',e=>by
  simp only[gY,aH.ok.injEq] at e
  obtain⟨rfl,rfl⟩:=e
  exact⟨fun _=>h,fun _=>n,fun _=>m,fun _=>⟨0,0,[],[]⟩,⟨fun k o hk=>by simp at hk,fun k hk=>by simp at hk,rfl,rfl,rfl,rfl⟩,rfl,rfl,rfl⟩
 |o::r,m,h,n,x,s',e=>by
  simp only[gY] at e
  obtain⟨m₁,s₁,e₁,e₂⟩:=bq e
  obtain⟨x₁,s₂,e₃,e₄⟩:=bq e₂
  simp only[aH.ok.injEq] at e₄
  obtain⟨rfl,rfl⟩:=e₄
  obtain⟨V,N,M,F,q,rfl',hN,Sz⟩:=yc r m₁ s₁.heap s₁.next x₁ s₂ e₃
  refine⟨fun k=>match k with |0=>h |k+1=>V k,fun k=>match k with |0=>n |k+1=>N k,fun k=>match k with |0=>m |k+1=>M k,
   fun k=>match k with |0=>⟨n,s₁.next,s₁.rd,s₁.wr⟩ |k+1=>F k,⟨?_,?_,?_,?_,?_,?_⟩,rfl,rfl,rfl⟩
  ·intro k o' hk
   cases k with
   |zero=>
    obtain rfl:o=o':=by simpa using hk
    show kS P O ev n ops o m ⟨h,n,[],[]⟩ = .ok (M 0) ⟨V 0,N 0,s₁.rd,s₁.wr⟩
    rw[rfl',hN,Sz]
    exact e₁
   |succ k=>exact q.step k o' (by simpa using hk)
  ·intro k hk
   cases k with
   |zero=>exact⟨rfl,rfl,hN.symm⟩
   |succ k=>exact q.EY k (by simpa using hk)
  ·simp[q.len]
  ·exact q.mE
  ·exact q.vE
  ·exact q.nE
theorem sE {A:Type} (T:Nat→Prop) (V:Nat→A):∀ i,(∀ k,k<i→ ¬T k→V (k+1)=V k)→
  (∃ k,k<i∧T k∧(∀ j,k<j→j<i→ ¬T j)∧V i=V (k+1))∨((∀ k,k<i→ ¬T k)∧V i=V 0)
 |0,_ => .inr ⟨fun k hk=>by omega,rfl⟩
 |i+1,hU=>by
  by_cases hT:T i
  ·exact .inl ⟨i,by omega,hT,fun j h1 h2=>by omega,rfl⟩
  ·have hV:=hU i (by omega) hT
   rcases sE T V i (fun k hk=>hU k (by omega)) with ⟨k,hk,VB,hno,hv⟩ | ⟨hno,hv⟩
   ·refine .inl ⟨k,by omega,VB,fun j h1 h2=>?_,hV.trans hv⟩
    rcases Nat.lt_or_ge j i with h |h
    ·exact hno j h1 h
    ·obtain rfl:j=i:=by omega
     exact hT
   ·refine .inr ⟨fun k hk=>?_,hV.trans hv⟩
    rcases Nat.lt_or_ge k i with h |h
    ·exact hno k h
    ·obtain rfl:k=i:=by omega
     exact hT
structure Nk {A:Type} (Ok:A→A→Prop) (D T:Nat→Prop) (V:Nat→A) (v₀ vD:A):Prop where
 BR:∀ k,D k→T k→(∀ j,D j→k<j→ ¬T j)→Ok (V (k+1)) vD
 still:(∀ k,D k→ ¬T k)→Ok v₀ vD
theorem Nk.at {A:Type} {Ok:A→A→Prop} (tr:∀ a b c,Ok a b→Ok b c→Ok a c) {D T:Nat→Prop} {V:Nat→A} {v₀ vD:A} {i:Nat} (h:Nk Ok D T V v₀ vD) (hU:∀ k,k<i→ ¬T k→V (k+1)=V k)
  (h0:Ok (V 0) v₀) (hlo:∀ k,k<i→T k→D k) (hhi:∀ k,D k→T k→k<i):Ok (V i) vD:=by
 rcases sE T V i hU with ⟨k,hk,VB,hno,hv⟩ | ⟨hno,hv⟩
 ·rw[hv]
  exact h.BR k (hlo k hk VB) VB fun j hD hkj hT=>hno j hkj (hhi j hD hT) hT
 ·rw[hv]
  exact tr _ _ _ h0 (h.still fun k hD hT=>hno k (hhi k hD hT) hT)
theorem Nk.step {A:Type} {Ok:A→A→Prop} (tr:∀ a b c,Ok a b→Ok b c→Ok a c) {D D' T:Nat→Prop} {V:Nat→A} {v₀ vD vD':A} {i:Nat} (h:Nk Ok D T V v₀ vD) (Iu:∀ k,D' k↔D k∨k=i)
  (h1:T i→Ok (V (i+1)) vD') (h2: ¬ T i→Ok vD vD') (aaS:∀ k,D k→T k→T i→k<i):Nk Ok D' T V v₀ vD':=by
 refine⟨fun k hk hT hno=>?_,fun hno=>?_⟩
 ·rcases(Iu k).1 hk with hk |rfl
  ·by_cases Eg:T i
   ·exact absurd Eg (hno i ((Iu i).2 (.inr rfl)) (aaS k hk hT Eg))
   ·exact tr _ _ _ (h.BR k hk hT fun j hj hkj=>hno j ((Iu j).2 (.inl hj)) hkj) (h2 Eg)
  ·exact h1 hT
 ·exact tr _ _ _ (h.still fun k hk=>hno k ((Iu k).2 (.inl hk))) (h2 (hno i ((Iu i).2 (.inr rfl))))
theorem qy {acc:List Nat} {j:Nat}:∀ {es:List Edge},(gJ acc es).testBit j=true→∃ e∈es,Region.binds .any e=true∧(j=e.on∨(acc.getD e.on 0).testBit j=true)
 | [],h=>by simp[gJ] at h
 |e::r,h=>by
  rw[gJ] at h
  have rest:(gJ acc r).testBit j=true→∃ e'∈e::r,Region.binds .any e'=true∧(j=e'.on∨(acc.getD e'.on 0).testBit j=true):=fun h=>by
   obtain⟨e',h1,h2⟩:=qy (es:=r) h
   exact⟨e',List.mem_cons_of_mem e h1,h2⟩
  cases hb:Region.binds .any e with
  |false=>rw[hb] at h;exact rest h
  |true=>
   rw[hb] at h
   have h:(((2^e.on)|||(acc.getD e.on 0))|||(gJ acc r)).testBit j=true:=h
   rw[Nat.testBit_or,Nat.testBit_or,Bool.or_eq_true,Bool.or_eq_true,Nat.testBit_two_pow] at h
   rcases h with (h |h) |h
   ·exact⟨e,List.mem_cons_self,hb,.inl (by simpa using (of_decide_eq_true h).symm)⟩
   ·exact⟨e,List.mem_cons_self,hb,.inr h⟩
   ·exact rest h
theorem lN:∀ (r:List Oper) (acc:List Nat),∃ tl,aO acc r=acc++tl∧tl.length=r.length∧
  ∀ k o j,r[k]? = some o→(tl.getD k 0).testBit j=true→∃ e∈o.after.toList,Region.binds .any e=true∧(j=e.on∨(e.on<acc.length+k∧((acc++tl).getD e.on 0).testBit j=true))
 | [],acc=>⟨[],by simp[aO],rfl,fun k o j hk=>by simp at hk⟩
 |o::r,acc=>by
  obtain⟨tl,h1,h2,h3⟩:=lN r (acc++[gJ acc o.after.toList])
  refine⟨gJ acc o.after.toList::tl,by rw[aO,h1];simp,by simp[h2],fun k o' j hk hb=>?_⟩
  cases k with
  |zero=>
   obtain rfl:o=o':=by simpa using hk
   have hb:(gJ acc o.after.toList).testBit j=true:=by simpa using hb
   obtain⟨e,he,Jk,q⟩:=qy hb
   refine⟨e,he,Jk,q.imp id fun q=>?_⟩
   have hlt:e.on<acc.length:=by
    rcases Nat.lt_or_ge e.on acc.length with h |h
    ·exact h
    ·rw[List.getD_eq_getElem?_getD,List.getElem?_eq_none h] at q;simp at q
   refine⟨by omega,?_⟩
   rw[List.getD_eq_getElem?_getD,List.getElem?_append_left hlt,←List.getD_eq_getElem?_getD]
   exact q
  |succ k=>
   obtain⟨e,he,Jk,q⟩:=h3 k o' j (by simpa using hk) (by simpa using hb)
   refine⟨e,he,Jk,q.imp id fun ⟨q1,q2⟩=>⟨by simp at q1;omega,by simpa using q2⟩⟩
theorem EZ {ops:List Oper} {k j:Nat} {o:Oper} (ho:ops[k]? = some o) (h:((aO [] ops).getD k 0).testBit j=true):
  ∃ e∈o.after.toList,Region.binds .any e=true∧(j=e.on∨(e.on<k∧((aO [] ops).getD e.on 0).testBit j=true)):=by
 obtain⟨tl,h1,h2,h3⟩:=lN ops []
 rw[h1] at h ⊢
 obtain⟨e,he,hb,q⟩:=h3 k o j ho (by simpa using h)
 exact⟨e,he,hb,q.imp id fun ⟨q1,q2⟩=>⟨by simpa using q1,q2⟩⟩
theorem sH {ops:List Oper} {D:Nat→Prop} (hD:∀ k o e,D k→ops[k]? = some o→e∈o.after→Region.binds .any e=true→D e.on):
  ∀ (k:Nat) (o:Oper) (j:Nat),ops[k]? = some o→(∀ e,e∈o.after→Region.binds .any e=true→D e.on)→((aO [] ops).getD k 0).testBit j=true→D j:=by
 intro k
 induction k using Nat.strongRecOn with
 |ind k ih=>
  intro o j ho hk hb
  obtain⟨e,he,Jk,q⟩:=EZ ho hb
  have hDe:=hk e (by simpa using he) Jk
  rcases q with rfl | ⟨q1,q2⟩
  ·exact hDe
  ·have Io:k<ops.length:=(List.getElem?_eq_some_iff.1 ho).1
   obtain⟨o',ho'⟩:∃ o',ops[e.on]? = some o':=⟨ops[e.on]'(by omega),by simp[show e.on<ops.length by omega]⟩
   exact ih e.on q1 o' j ho' (fun e' he' hb'=>hD e.on o' e' hDe ho' he' hb') q2
theorem pI {uA:List Nat}:∀ {n i j:Nat},i<j→j<n→(uA.getD j 0).testBit i=false→(i,j)∈aL uA n
 |0,i,j,_,h,_=>by omega
 |n+1,i,j,hij,hj,hb=>by
  rw[aL,List.mem_append]
  rcases Nat.lt_or_ge j n with h |h
  ·exact .inl (pI hij h hb)
  ·obtain rfl:j=n:=by omega
   refine .inr (List.mem_map.2 ⟨i,List.mem_filter.2 ⟨List.mem_range.2 hij,?_⟩,rfl⟩)
   rw[hb];rfl
theorem sI:∀ {r:List Oper} {i:Nat},j0 i r=true→∀ k o,r[k]? = some o→∀ e∈o.after,Region.binds .any e=true→e.on<i+k
 | [],i,h,k,o,hk=>by simp at hk
 |o::r,i,h,k,o',hk=>by
  intro e he hb
  rw[j0,Bool.and_eq_true] at h
  cases k with
  |zero=>
   obtain rfl:o=o':=by simpa using hk
   have:=List.all_eq_true.1 h.1 e (by simpa using he)
   rw[hb] at this
   have:=Nat.blt_eq.mp (by simpa using this)
   omega
  |succ k=>
   have:=sI h.2 k o' (by simpa using hk) e he hb
   have e2:Nat.succ i=i+1:=rfl
   omega
theorem lP {a b:List Nat} (h:meets a b=false) {x:Nat} (ha:x∈a) (hb:x∈b):False:=by
 have:meets a b=true:=List.any_eq_true.2 ⟨x,ha,List.any_eq_true.2 ⟨x,hb,Nat.beq_refl x⟩⟩
 rw[h] at this;exact Bool.noConfusion this
theorem jS {a:List Nat} {lo hi:Nat} (h:bw a lo hi=false) {x:Nat} (ha:x∈a): ¬ (lo≤x∧x<hi):=by
 rintro ⟨h1,h2⟩
 have:bw a lo hi=true:=List.any_eq_true.2 ⟨x,ha,by rw[Bool.and_eq_true];exact⟨Nat.ble_eq.mpr h1,Nat.blt_eq.mpr h2⟩⟩
 rw[h] at this;exact Bool.noConfusion this
theorem E0 {p q:Nat→Bool} (h:∀ k,q k=true→p k=true):∀ {l:List Nat} {i:Nat},i∈l→p i=true→q i=false→l.countP q<l.countP p
 | [],i,hi,_,_=>by simp at hi
 |x::l,i,hi,hp,hq=>by
  have hle:l.countP q≤l.countP p:=List.countP_mono_left fun k _ hk=>h k hk
  rcases List.mem_cons.1 hi with rfl |hi
  ·rw[List.countP_cons_of_pos hp,List.countP_cons_of_neg (by simp[hq])];omega
  ·have:=E0 h hi hp hq
   rw[List.countP_cons,List.countP_cons]
   have:(if q x=true then 1 else 0)≤(if p x=true then 1 else 0:Nat):=by
    by_cases hx:q x=true
    ·simp[hx,h x hx]
    ·simp[hx]
   omega
end
end Go.Am
