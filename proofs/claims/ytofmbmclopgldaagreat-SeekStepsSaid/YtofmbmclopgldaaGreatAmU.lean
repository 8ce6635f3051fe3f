/-
A part.
-/
import Derived.Test.YtofmbmclopgldaaGreatAmT
set_option linter.all false
namespace Go.Am
open Go.RowKit
section
variable {P:Program} {O:Over} {ev:iL} {lim:Nat}
theorem J5{ρ ρ':Operand→Value}(o:Oper)(h:∀ x∈o.op.operands,ρ x=ρ' x):k7 P ρ o=k7 P ρ' o:=by
 obtain⟨dst,op,type,pos,after,guard⟩:=o;have pairs:∀ ps:Array (Nat×Operand),(∀ x∈ps.map (·.2),ρ x=ρ' x)→
   (ps.toList.map fun p=>(p.1,ρ p.2))=(ps.toList.map fun p=>(p.1,ρ' p.2)):=fun ps hp=>
  List.map_congr_left fun p hm=>by
   rw[hp p.2 (Array.mem_map.2 ⟨p,by simpa using hm,rfl⟩)]
 have lists:∀ xs:Array Operand,(∀ x∈xs,ρ x=ρ' x)→xs.toList.map ρ=xs.toList.map ρ':=fun xs hx=>List.map_congr_left fun x hm=>hx x (by simpa using hm);cases op<;>simp only[Op.operands] at h<;>simp only[k7]
 case build t ps=>rw[pairs ps fun x hx=>h x (by simpa using hx)]
 case buildSlice t n ps=>rw[pairs ps fun x hx=>h x (by simpa using hx)]
 case makeFunc fn first captured=>
  rw[lists first fun x hx=>h x (by simp[hx]),lists captured fun x hx=>h x (by simp[hx])]
 case call c=>
  unfold rU;rw[lists c.args fun x hx=>h x (by simp[Call.operands,hx])];cases hc:c.callee with
  |value f=>have hf:ρ f=ρ' f:=h f (by simp[Call.operands,hc]);simp only[hf]
  |invoke r m=>have hr:ρ r=ρ' r:=h r (by simp[Call.operands,hc]);simp only[hr]
  |builtin b=>rfl
 case makeMap t r=>cases r<;>simp_all
 case slice t x lo hi mx=>cases lo<;>cases hi<;>cases mx<;>simp_all
 all_goals (first|rfl | (simp_all;done))
theorem eval_congr{m m':Tm}{x:Operand}(h:∀ t,x = .tmp t→m.get t=m'.get t):m.eval x=m'.eval x:=by
 cases x with
 |tmp t=>exact h t rfl
 | _=>rfl
theorem val_congr{ρ ρ':Operand→Value}{o:Oper}(h:∀ x∈o.op.operands,ρ x=ρ' x)(s:HS):jr P O ev lim ρ o s=jr P O ev lim ρ' o s:=by
 unfold jr;rw[J5 o h]
theorem Bu{ops:List Oper}{m m':Tm}{o:Oper}(h:∀ t,t∈o.looksAt ⟨ops⟩→m.get t=m'.get t):b_ ops m o=b_ ops m' o:=by
 unfold b_;cases hg:o.guard with
 |none=>rfl
 |some g=>
  obtain⟨j,want⟩:=g;have:ig ops m j=ig ops m' j:=by
   unfold ig;cases hj:ops[j]? with
   |none=>rfl
   |some oj=>
    cases hd:oj.dst with
    |none=>simp[hd]
    |some d=>
     have hin:d∈o.looksAt ⟨ops⟩:=by simp[Oper.looksAt,hg,hj,hd]
     simp only[hd,h d hin]
  simp only[this]
theorem DF{ops:List Oper}{o:Oper}{m m₁ mD:Tm}{s s':HS}(e:lW P O ev lim ops o m s = .ok m₁ s')(h:∀ t,t∈o.looksAt ⟨ops⟩→mD.get t=m.get t)(hn:mD.n=m.n):
  ∃ m',lW P O ev lim ops o mD s = .ok m' s'∧m'.n=mD.n∧m'.fF=mD.fF∧m₁.n=m.n∧m₁.fF=m.fF∧(∀ t,o.dst≠some t→m'.get t=mD.get t∧m₁.get t=m.get t)∧∀ t,o.dst=some t→m'.get t=m₁.get t:=by
 unfold lW at e;obtain⟨v,s₁,e₁,e₂⟩:=bE e;have zY:cond (b_ ops mD o) (jr P O ev lim mD.eval o s) (.ok dY s) = .ok v s₁:=by
  rw[Bu h,val_congr (ρ':=m.eval) (fun x hx=>eval_congr fun t ht=>h t (by
   subst ht;exact List.mem_append_left _ (List.mem_filterMap.2 ⟨.tmp t,by simpa using hx,rfl⟩)))]
  exact e₁
 unfold jt at e₂;cases hd:o.dst with
 |none=>
  simp only[hd,Tm.put] at e₂;simp only[aO.ok.injEq] at e₂;obtain⟨rfl,rfl⟩:=e₂;exact⟨mD,by unfold lW;rw[zY];simp[bP,jt,hd,Tm.put],rfl,rfl,rfl,rfl,fun t _=>⟨rfl,rfl⟩,fun t ht=>by simp at ht⟩
 |some d=>
  simp only[hd,Tm.put] at e₂;cases hb:Nat.blt d m.n with
  |false=>simp[hb] at e₂
  |true=>
   simp only[hb,cond_true,aO.ok.injEq] at e₂;obtain⟨rfl,rfl⟩:=e₂;refine⟨{ mD with t:=mD.t.set d (some v) },?_,rfl,rfl,rfl,rfl,fun t ht=>?_,fun t ht=>?_⟩
   ·unfold lW;rw[zY];simp[bP,jt,hd,Tm.put,hn,hb]
   ·have:t≠d:=fun e=>ht (by rw[e]);simp[Tm.get,PT.bC,this]
   ·obtain rfl:d=t:=by simpa using ht
    simp[Tm.get,PT.bC]
structure ac3(P:Program)(O:Over)(ev:iL)(ops r:List Oper)(x:Tm×List bO)(s':HS)(V:Nat→PT aj)(N:Nat→Nat)(M:Nat→Tm)(F:Nat→bO):Prop where
 step:∀ k o,r[k]? = some o→lW P O ev (N k) ops o (M k) ⟨V k,N k,[],[]⟩ = .ok (M (k+1)) ⟨V (k+1),N (k+1),(F k).rd,(F k).wr⟩
 MD:∀ k,k<r.length→x.2[k]? = some (F k)∧(F k).lo=N k∧(F k).hi=N (k+1)
 len:x.2.length=r.length
 mE:M r.length=x.1
 vE:V r.length=s'.heap
 nE:N r.length=s'.next
theorem DG{ops:List Oper}:∀ (r:List Oper) (m:Tm) (h:PT aj) (n:Nat) (x:Tm×List bO) (s':HS),g8 P O ev ops r m h n = .ok x s'→
  ∃ V N M F,ac3 P O ev ops r x s' V N M F∧V 0=h∧N 0=n∧M 0=m
 | [],m,h,n,x,s',e=>by
  simp only[g8,aO.ok.injEq] at e;obtain⟨rfl,rfl⟩:=e;exact⟨fun _=>h,fun _=>n,fun _=>m,fun _=>⟨0,0,[],[]⟩,⟨fun k o hk=>by simp at hk,fun k hk=>by simp at hk,rfl,rfl,rfl,rfl⟩,rfl,rfl,rfl⟩
 |o::r,m,h,n,x,s',e=>by
  simp only[g8] at e;obtain⟨m₁,s₁,e₁,e₂⟩:=bE e;obtain⟨x₁,s₂,e₃,e₄⟩:=bE e₂;simp only[aO.ok.injEq] at e₄;obtain⟨rfl,rfl⟩:=e₄;obtain⟨V,N,M,F,q,rfl',hN,ac4⟩:=DG r m₁ s₁.heap s₁.next x₁ s₂ e₃;refine⟨fun k=>match k with |0=>h |k+1=>V k,fun k=>match k with |0=>n |k+1=>N k,fun k=>match k with |0=>m |k+1=>M k,
   fun k=>match k with |0=>⟨n,s₁.next,s₁.rd,s₁.wr⟩ |k+1=>F k,⟨?_,?_,?_,?_,?_,?_⟩,rfl,rfl,rfl⟩
  ·intro k o' hk;cases k with
   |zero=>
    obtain rfl:o=o':=by simpa using hk
    show lW P O ev n ops o m ⟨h,n,[],[]⟩ = .ok (M 0) ⟨V 0,N 0,s₁.rd,s₁.wr⟩
    rw[rfl',hN,ac4];exact e₁
   |succ k=>exact q.step k o' (by simpa using hk)
  ·intro k hk;cases k with
   |zero=>exact⟨rfl,rfl,hN.symm⟩
   |succ k=>exact q.MD k (by simpa using hk)
  ·simp[q.len]
  ·exact q.mE
  ·exact q.vE
  ·exact q.nE
theorem xq{A:Type}(T:Nat→Prop)(V:Nat→A):∀ i,(∀ k,k<i→ ¬T k→V (k+1)=V k)→
  (∃ k,k<i∧T k∧(∀ j,k<j→j<i→ ¬T j)∧V i=V (k+1))∨((∀ k,k<i→ ¬T k)∧V i=V 0)
 |0,_ => .inr ⟨fun k hk=>by omega,rfl⟩
 |i+1,hU=>by
  by_cases hT:T i
  ·exact .inl ⟨i,by omega,hT,fun j h1 h2=>by omega,rfl⟩
  ·have hV:=hU i qJ hT
   rcases xq T V i (fun k hk=>hU k qJ) with ⟨k,hk,hTk,hno,hv⟩ | ⟨hno,hv⟩
   ·refine .inl ⟨k,by omega,hTk,fun j h1 h2=>?_,hV.trans hv⟩
    rcases Nat.lt_or_ge j i with h |h
    ·exact hno j h1 h
    ·obtain rfl:j=i:=by omega
     exact hT
   ·refine .inr ⟨fun k hk=>?_,hV.trans hv⟩
    rcases Nat.lt_or_ge k i with h |h
    ·exact hno k h
    ·obtain rfl:k=i:=by omega
     exact hT
structure Yc{A:Type}(Ok:A→A→Prop)(D T:Nat→Prop)(V:Nat→A)(v₀ vD:A):Prop where
 Ic:∀ k,D k→T k→(∀ j,D j→k<j→ ¬T j)→Ok (V (k+1)) vD
 still:(∀ k,D k→ ¬T k)→Ok v₀ vD
theorem Yc.at{A:Type}{Ok:A→A→Prop}(tr:∀ a b c,Ok a b→Ok b c→Ok a c){D T:Nat→Prop}{V:Nat→A}{v₀ vD:A}{i:Nat}(h:Yc Ok D T V v₀ vD)(hU:∀ k,k<i→ ¬T k→V (k+1)=V k)
  (h0:Ok (V 0) v₀) (hlo:∀ k,k<i→T k→D k) (hhi:∀ k,D k→T k→k<i):Ok (V i) vD:=by
 rcases xq T V i hU with ⟨k,hk,hTk,hno,hv⟩ | ⟨hno,hv⟩
 ·rw[hv];exact h.Ic k (hlo k hk hTk) hTk fun j hD hkj hT=>hno j hkj (hhi j hD hT) hT
 ·rw[hv];exact tr _ _ _ h0 (h.still fun k hD hT=>hno k (hhi k hD hT) hT)
theorem Yc.step{A:Type}{Ok:A→A→Prop}(tr:∀ a b c,Ok a b→Ok b c→Ok a c){D D' T:Nat→Prop}{V:Nat→A}{v₀ vD vD':A}{i:Nat}(h:Yc Ok D T V v₀ vD)(Ry:∀ k,D' k↔D k∨k=i)
  (h1:T i→Ok (V (i+1)) vD') (h2: ¬ T i→Ok vD vD') (apk:∀ k,D k→T k→T i→k<i):Yc Ok D' T V v₀ vD':=by
 refine⟨fun k hk hT hno=>?_,fun hno=>?_⟩
 ·rcases(Ry k).1 hk with hk|rfl
  ·by_cases LR:T i
   ·exact absurd LR (hno i ((Ry i).2 (.inr rfl)) (apk k hk hT LR))
   ·exact tr _ _ _ (h.Ic k hk hT fun j hj hkj=>hno j ((Ry j).2 (.inl hj)) hkj) (h2 LR)
  ·exact h1 hT
 ·exact tr _ _ _ (h.still fun k hk=>hno k ((Ry k).2 (.inl hk))) (h2 (hno i ((Ry i).2 (.inr rfl))))
theorem uU{acc:List Nat}{j:Nat}:∀ {es:List Edge},(ju acc es).testBit j=true→∃ e∈es,Region.binds .any e=true∧(j=e.on∨(acc.getD e.on 0).testBit j=true)
 | [],h=>by simp[ju] at h
 |e::r,h=>by
  rw[ju] at h;have rest:(ju acc r).testBit j=true→∃ e'∈e::r,Region.binds .any e'=true∧(j=e'.on∨(acc.getD e'.on 0).testBit j=true):=fun h=>by
   obtain⟨e',h1,h2⟩:=uU (es:=r) h;exact⟨e',List.mem_cons_of_mem e h1,h2⟩
  cases hb:Region.binds .any e with
  |false=>rw[hb] at h;exact rest h
  |true=>
   rw[hb] at h;have h:(((2^e.on)|||(acc.getD e.on 0))|||(ju acc r)).testBit j=true:=h;rw[Nat.testBit_or,Nat.testBit_or,Bool.or_eq_true,Bool.or_eq_true,Nat.testBit_two_pow] at h
   rcases h with (h |h) |h
   ·exact⟨e,List.mem_cons_self,hb,.inl (by simpa using (of_decide_eq_true h).symm)⟩
   ·exact⟨e,List.mem_cons_self,hb,.inr h⟩
   ·exact rest h
theorem oP:∀ (r:List Oper) (acc:List Nat),∃ tl,aU acc r=acc++tl∧tl.length=r.length∧
  ∀ k o j,r[k]? = some o→(tl.getD k 0).testBit j=true→∃ e∈o.after.toList,Region.binds .any e=true∧(j=e.on∨(e.on<acc.length+k∧((acc++tl).getD e.on 0).testBit j=true))
 | [],acc=>⟨[],by simp[aU],rfl,fun k o j hk=>by simp at hk⟩
 |o::r,acc=>by
  obtain⟨tl,h1,h2,h3⟩:=oP r (acc++[ju acc o.after.toList]);refine⟨ju acc o.after.toList::tl,by rw[aU,h1];simp,by simp[h2],fun k o' j hk hb=>?_⟩;cases k with
  |zero=>
   obtain rfl:o=o':=by simpa using hk
   have hb:(ju acc o.after.toList).testBit j=true:=by simpa using hb
   obtain⟨e,he,ME,q⟩:=uU hb;refine⟨e,he,ME,q.imp id fun q=>?_⟩;have hlt:e.on<acc.length:=by
    rcases Nat.lt_or_ge e.on acc.length with h |h
    ·exact h
    ·rw[List.getD_eq_getElem?_getD,List.getElem?_eq_none h] at q;simp at q
   refine⟨by omega,?_⟩;rw[List.getD_eq_getElem?_getD,List.getElem?_append_left hlt,←List.getD_eq_getElem?_getD];exact q
  |succ k=>
   obtain⟨e,he,ME,q⟩:=h3 k o' j (by simpa using hk) (by simpa using hb);refine⟨e,he,ME,q.imp id fun ⟨q1,q2⟩=>⟨by simp at q1;omega,by simpa using q2⟩⟩
theorem MF{ops:List Oper}{k j:Nat}{o:Oper}(ho:ops[k]? = some o)(h:((aU [] ops).getD k 0).testBit j=true):
  ∃ e∈o.after.toList,Region.binds .any e=true∧(j=e.on∨(e.on<k∧((aU [] ops).getD e.on 0).testBit j=true)):=by
 obtain⟨tl,h1,h2,h3⟩:=oP ops [];rw[h1] at h ⊢;obtain⟨e,he,hb,q⟩:=h3 k o j ho (by simpa using h);exact⟨e,he,hb,q.imp id fun ⟨q1,q2⟩=>⟨by simpa using q1,q2⟩⟩
theorem xu{ops:List Oper}{D:Nat→Prop}(hD:∀ k o e,D k→ops[k]? = some o→e∈o.after→Region.binds .any e=true→D e.on):
  ∀ (k:Nat) (o:Oper) (j:Nat),ops[k]? = some o→(∀ e,e∈o.after→Region.binds .any e=true→D e.on)→((aU [] ops).getD k 0).testBit j=true→D j:=by
 intro k
 induction k using Nat.strongRecOn with
 |ind k ih=>
  intro o j ho hk hb;obtain⟨e,he,ME,q⟩:=MF ho hb;have hDe:=hk e (by simpa using he) ME
  rcases q with rfl | ⟨q1,q2⟩
  ·exact hDe
  ·have Rv:k<ops.length:=(List.getElem?_eq_some_iff.1 ho).1;obtain⟨o',ho'⟩:∃ o',ops[e.on]? = some o':=⟨ops[e.on]'qJ,by simp[show e.on<ops.length by omega]⟩;exact ih e.on q1 o' j ho' (fun e' he' hb'=>hD e.on o' e' hDe ho' he' hb') q2
theorem tV{zP:List Nat}:∀ {n i j:Nat},i<j→j<n→(zP.getD j 0).testBit i=false→(i,j)∈aR zP n
 |0,i,j,_,h,_=>by omega
 |n+1,i,j,hij,hj,hb=>by
  rw[aR,List.mem_append]
  rcases Nat.lt_or_ge j n with h |h
  ·exact .inl (tV hij h hb)
  ·obtain rfl:j=n:=by omega
   refine .inr (List.mem_map.2 ⟨i,List.mem_filter.2 ⟨List.mem_range.2 hij,?_⟩,rfl⟩);rw[hb];rfl
theorem xw:∀ {r:List Oper} {i:Nat},mZ i r=true→∀ k o,r[k]? = some o→∀ e∈o.after,Region.binds .any e=true→e.on<i+k
 | [],i,h,k,o,hk=>by simp at hk
 |o::r,i,h,k,o',hk=>by
  intro e he hb;rw[mZ,Bool.and_eq_true] at h;cases k with
  |zero=>
   obtain rfl:o=o':=by simpa using hk
   have:=List.all_eq_true.1 h.1 e (by simpa using he);rw[hb] at this;have:=Nat.blt_eq.mp (by simpa using this);omega
  |succ k=>
   have:=xw h.2 k o' (by simpa using hk) e he hb;have e2:Nat.succ i=i+1:=rfl;omega
theorem oR{a b:List Nat}(h:meets a b=false){x:Nat}(ha:x∈a)(hb:x∈b):False:=by
 have:meets a b=true:=List.any_eq_true.2 ⟨x,ha,List.any_eq_true.2 ⟨x,hb,Nat.beq_refl x⟩⟩;rw[h] at this;exact Bool.noConfusion this
theorem mg{a:List Nat}{lo hi:Nat}(h:bR a lo hi=false){x:Nat}(ha:x∈a): ¬ (lo≤x∧x<hi):=by
 rintro ⟨h1,h2⟩;have:bR a lo hi=true:=List.any_eq_true.2 ⟨x,ha,by rw[Bool.and_eq_true];exact⟨Nat.ble_eq.mpr h1,Nat.blt_eq.mpr h2⟩⟩;rw[h] at this;exact Bool.noConfusion this
theorem MG{p q:Nat→Bool}(h:∀ k,q k=true→p k=true):∀ {l:List Nat} {i:Nat},i∈l→p i=true→q i=false→l.countP q<l.countP p
 | [],i,hi,_,_=>by simp at hi
 |x::l,i,hi,hp,hq=>by
  have hle:l.countP q≤l.countP p:=List.countP_mono_left fun k _ hk=>h k hk
  rcases List.mem_cons.1 hi with rfl |hi
  ·rw[List.countP_cons_of_pos hp,List.countP_cons_of_neg (by simp[hq])];omega
  ·have:=MG h hi hp hq;rw[List.countP_cons,List.countP_cons];have:(if q x=true then 1 else 0)≤(if p x=true then 1 else 0:Nat):=by
    by_cases hx:q x=true
    ·simp[hx,h x hx]
    ·simp[hx]
   omega
end
end Go.Am
