/-
  The abstract machine: a region that draws its order of evaluation does, in every order, what it does in the order of its text.
-/
import Derived.Test.YtofmbmclopgldaaGreatAmU
set_option linter.unusedSimpArgs false
set_option linter.unusedVariables false
namespace Go.Am
open Go.RowKit
def pick (l:List Nat) (h:PT ak):PT ak:=l.foldr (fun id t=>t.set id (h.get id)) .leaf
theorem oF {l:List Nat} {h:PT ak} {id:Nat}:(pick l h).get id=if id∈l then h.get id else none:=by
 induction l with
 |nil=>simp[pick]
 |cons x l ih=>
  have:pick (x::l) h=(pick l h).set x (h.get x):=rfl
  rw[this,PT.aZ,ih]
  by_cases hx:id=x
  ·subst hx;simp
  ·simp[hx]
theorem vS {f g:bD} (h:gZ f g=false):(∀ x,x∈f.wr→x∉g.wr∧x∉g.rd)∧(∀ x,x∈f.rd→x∉g.wr)∧∀ x,x∈g.rd∨x∈g.wr→ ¬(f.lo≤x∧x<f.hi):=by
 simp only[gZ,Bool.or_eq_false_iff] at h
 obtain⟨⟨⟨⟨h1,h2⟩,h3⟩,h4⟩,h5⟩:=h
 refine⟨fun x hx=>⟨fun hg=>lP h1 hx hg,fun hg=>lP h2 hx hg⟩,fun x hx hg=>lP h3 hx hg,fun x hx=>?_⟩
 rcases hx with hx |hx
 ·exact jS h4 hx
 ·exact jS h5 hx
def SA (a b:Option ak):Prop:=∀ c,a=some c→b=some c
def oG (ops:List Oper) (k:Nat):Option Tmp:=(ops[k]?).bind (·.dst)
structure Ctx (P:Program) (O:Over) (ev:fU) (ops:List Oper) (V:Nat→PT ak) (N:Nat→Nat) (M:Nat→Tm) (F:Nat→bD):Prop where
 step:∀ k o,ops[k]? = some o→kS P O ev (N k) ops o (M k) ⟨V k,N k,[],[]⟩ = .ok (M (k+1)) ⟨V (k+1),N (k+1),(F k).rd,(F k).wr⟩
 aaT:∀ k,k<ops.length→(F k).lo=N k∧(F k).hi=N (k+1)
 gZ:∀ i j,(i,j)∈aL (aO [] ops) ops.length→j<ops.length→i<j→gZ (F i) (F j)=false
 apart:∀ i j oi oj,(i,j)∈aL (aO [] ops) ops.length→ops[i]? = some oi→ops[j]? = some oj→Oper.apart ⟨ops⟩ oi oj=true
 back:∀ k o,ops[k]? = some o→∀ e∈o.after,Region.binds .any e=true→e.on<k
 wf:∀ k,k≤ops.length→∀ id,N k≤id→(V k).get id=none
 mono:∀ j k,j≤k→k≤ops.length→N j≤N k
 low:∀ k,k<ops.length→∀ y,y∈(F k).rd∨y∈(F k).wr→y<N k
 same:∀ k,k<ops.length→∀ id,¬(id∈(F k).wr∨(N k≤id∧id<N (k+1)))→(V (k+1)).get id=(V k).get id
 LL:∀ k,k<ops.length→∀ t,oG ops k≠some t→(M (k+1)).get t=(M k).get t
 sizes:∀ k,k≤ops.length→(M k).n=(M 0).n∧(M k).eS=(M 0).eS
structure Inv (P:Program) (ops:List Oper) (V:Nat→PT ak) (N:Nat→Nat) (M:Nat→Tm) (F:Nat→bD) (oH:br) (W:World) (uk:PT ak) (D:Nat→Prop) (Γ:br) (H:PT ak) (m:Tm) (a:Act) (w:World):Prop where
 le:oH.le Γ
 rel:bh Γ W H w
 fr:sA Γ m a
 out:∀ i,¬(N 0≤i∧i<N ops.length)→Γ.blk i=oH.blk i
 free:∀ k,k<ops.length→ ¬D k→Free Γ (N k) (N (k+1))
 heap:∀ id,Nk SA D (fun k=>id∈(F k).wr∨(N k≤id∧id<N (k+1))) (fun k=>(V k).get id) (uk.get id) (H.get id)
 slot:∀ t,Nk Eq D (fun k=>oG ops k=some t) (fun k=>(M k).get t) ((M 0).get t) (m.get t)
 size:m.n=(M 0).n
 eS:m.eS=(M 0).eS
theorem Aq:∀ a b c,SA a b→SA b c→SA a c:=fun _ _ _ h k x hx=>k x (h x hx)
section
variable {P:Program} {O:Over} {ev:fU} {ops:List Oper} {V:Nat→PT ak} {N:Nat→Nat} {M:Nat→Tm} {F:Nat→bD} {oH Γ:br} {W w:World} {uk H:PT ak}
theorem C8 (hO:cr P O) (d_:gq P ev) (hlo:gP ev) (C:Ctx P O ev ops V N M F) (h0:Ext (V 0) uk) {D D':Nat→Prop} (Nl:∀ k,D k→k<ops.length) {m:Tm} {a:Act} (I:Inv P ops V N M F oH W uk D Γ H m a w)
  {i:Nat} {o:Oper} (ho:ops[i]? = some o) (hi: ¬ D i) (hr:∀ e,e∈o.after→Region.binds .any e=true→D e.on)
  (I2:∀ k o e,D k→ops[k]? = some o→e∈o.after→Region.binds .any e=true→D e.on) (Iu:∀ k,D' k↔D k∨k=i) (r:Option Nat) {K:Act→World→Prop} {Q:Exit→Act→World→Prop}
  (hK:∀ aS H' m' a' w',Inv P ops V N M F oH W uk D' aS H' m' a' w'→K a' w'):wpOpIn (Fw r) 0 P ⟨ops⟩ Q i K a w:=by
 have hil:i<ops.length:=(List.getElem?_eq_some_iff.1 ho).1
 have Iv:∀ k,k<ops.length→∃ ok,ops[k]? = some ok:=fun k hk=>⟨ops[k],by simp[hk]⟩
 have before:∀ k,k<i→ ¬D k→(k,i)∈aL (aO [] ops) ops.length:=fun k hk hD=>by
  refine pI hk hil ?_
  cases hb:((aO [] ops).getD i 0).testBit k with
  |false=>rfl
  |true=>exact absurd (sH I2 i o k ho hr hb) hD
 have behind:∀ k,i<k→D k→(i,k)∈aL (aO [] ops) ops.length:=fun k hk hD=>by
  refine pI hk (Nl k hD) ?_
  cases hb:((aO [] ops).getD k 0).testBit i with
  |false=>rfl
  |true=>
   obtain⟨ok,hok⟩:=Iv k (Nl k hD)
   exact absurd (sH I2 k ok i hok (fun e he Jk=>I2 k ok e hD hok he Jk) hb) hi
 have LM:=C.aaT
 have hNi:=C.mono i (i+1) (by omega) (by omega)
 have needs:∀ id,(id∈(F i).rd∨id∈(F i).wr)→SA ((V i).get id) (H.get id):=fun id hid=>by
  have fP:=C.low i hil id hid
  refine(I.heap id).at Aq (fun k hk hT=>C.same k (by omega) id hT) (h0 id) (fun k hk hT=>?_) (fun k hD hT=>?_)
  ·refine Classical.byContradiction fun hD=>?_
   obtain⟨c1,c2,c3⟩:=vS (C.gZ k i (before k hk hD) hil hk)
   rcases hT with hT |hT
   ·rcases hid with h |h
    ·exact(c1 id hT).2 h
    ·exact(c1 id hT).1 h
   ·obtain⟨l1,l2⟩:=LM k (by omega)
    exact c3 id hid (by rw[l1,l2];exact hT)
  ·refine Classical.byContradiction fun hk=>?_
   have hki:k≠i:=fun e=>hi (e ▸ hD)
   have hik:i<k:=by omega
   obtain⟨c1,c2,c3⟩:=vS (C.gZ i k (behind k hik hD) (Nl k hD) hik)
   rcases hT with hT |hT
   ·rcases hid with h |h
    ·exact c2 id h hT
    ·exact(c1 id h).1 hT
   ·have:=C.mono i k (by omega) (by have:=Nl k hD;omega)
    omega
 have looks:∀ t,t∈o.looksAt ⟨ops⟩→m.get t=(M i).get t:=fun t ht=>by
  refine((I.slot t).at (fun _ _ _ h k=>h.trans k) (i:=i) (fun k hk hT=>C.LL k (by omega) t hT) rfl (fun k hk hT=>?_) (fun k hD hT=>?_)).symm
  ·refine Classical.byContradiction fun hD=>?_
   obtain⟨ok,hok⟩:=Iv k (by omega)
   obtain⟨c1,c2,c3⟩:=Oper.apart_spec (C.apart k i ok o (before k hk hD) hok ho)
   exact c1 t (by simpa [oG,hok] using hT) ht
  ·refine Classical.byContradiction fun hk=>?_
   have hki:k≠i:=fun e=>hi (e ▸ hD)
   obtain⟨ok,hok⟩:=Iv k (Nl k hD)
   obtain⟨c1,c2,c3⟩:=Oper.apart_spec (C.apart i k o ok (behind k (by omega) hD) ho hok)
   exact c3 t (by simpa [oG,hok] using hT) ht
 have e:=C.step i o ho
 obtain⟨p,q⟩:=pG (P:=P) (lim:=N i) hlo ops o (M i) (V i) (N i) [] [] _ _ e (Nat.le_refl _) (C.wf i (by omega))
 obtain⟨h2',e2,u2⟩:=q (pick ((F i).rd++(F i).wr) (V i)) (fun id b hid hb=>by
  rw[oF]
  rcases hid with hid |hid |hid
  ·rw[if_pos (List.mem_append_left _ hid)];exact hb
  ·rw[if_pos (List.mem_append_right _ hid)];exact hb
  ·rw[C.wf i (by omega) id hid] at hb;simp at hb)
 obtain⟨m',e3,k1,k2,k3,k4,k5,k6⟩:=ya e2 looks (by rw[I.size,(C.sizes i (by omega)).1])
 refine x9 hO d_ hlo ho e3 (Nat.le_refl _) (fun id hid=>?_) I.rel (fun id b hb=>?_) I.fr (I.free i hil hi) r fun aS w' a' H' hex hfr=>hK aS H' m' a' w' ?_
 ·show (pick _ _).get id=none
  rw[oF]
  split
  ·rename_i hin
   have:=C.low i hil id (List.mem_append.1 hin)
   have hid:N i≤id:=hid
   omega
  ·rfl
 ·have hb:(pick _ _).get id=some b:=hb
  rw[oF] at hb
  split at hb
  ·rename_i hin
   exact needs id (List.mem_append.1 hin) b hb
  ·simp at hb
 ·have hout:∀ j,¬(N i≤j∧j<N (i+1))→aS.blk j=Γ.blk j:=hex.out
  have hkeep:Keep (N i) (N (i+1)) (F i).wr H H':=hex.keep
  have hsub:Ext h2' H':=hex.sub
  have Qq:=C.mono 0 i (by omega) (by omega)
  have hNl:=C.mono (i+1) ops.length (by omega) (by omega)
  refine⟨I.le.trans hex.le,hex.rel,hfr,fun j hj=>?_,fun k hk hD=>?_,fun id=>?_,fun t=>?_,k1.trans I.size,k2.trans I.eS⟩
  ·rw[hout j (by omega)];exact I.out j hj
  ·have hDk: ¬ D k:=fun h=>hD ((Iu k).2 (.inl h))
   have hki:k≠i:=fun h=>hD ((Iu k).2 (.inr h))
   intro j h1 h2
   rw[hout j ?_]
   ·exact I.free k hk hDk j h1 h2
   ·rintro ⟨h3,h4⟩
    rcases Nat.lt_or_ge k i with h |h
    ·have:=C.mono (k+1) i (by omega) (by omega);omega
    ·have:=C.mono (i+1) k (by omega) (by omega);omega
  ·refine(I.heap id).step Aq Iu (fun hT b hb=>?_) (fun hT b hb=>?_) (fun k hD hT Eg=>?_)
   ·rcases u2 id with ⟨u,_⟩ | ⟨u,u'⟩
    ·exact hsub id b (by rw[u];exact hb)
    ·have hb:(V (i+1)).get id=some b:=hb
     have u':(V (i+1)).get id=(V i).get id:=u'
     rw[u'] at hb
     rcases hT with hT |hT
     ·refine hsub id b (by rw[u,oF,if_pos (List.mem_append_right _ hT)];exact hb)
     ·rw[C.wf i (by omega) id hT.1] at hb;simp at hb
   ·rcases hkeep id b hb with h |h
    ·exact h
    ·exact absurd h hT
   ·refine Classical.byContradiction fun hk=>?_
    have hki:k≠i:=fun e=>hi (e ▸ hD)
    have hik:i<k:=by omega
    have Io:=Nl k hD
    obtain⟨c1,c2,c3⟩:=vS (C.gZ i k (behind k hik hD) Io hik)
    have hNk:=C.mono (i+1) k (by omega) (by omega)
    rcases Eg with Eg |Eg
    ·have:=C.low i hil id (.inr Eg)
     rcases hT with hT |hT
     ·exact(c1 id Eg).1 hT
     ·omega
    ·rcases hT with hT |hT
     ·obtain⟨l1,l2⟩:=LM i hil
      exact c3 id (.inr hT) (by rw[l1,l2];exact Eg)
     ·omega
  ·have hdi:oG ops i=o.dst:=by simp[oG,ho]
   refine(I.slot t).step (fun _ _ _ h k=>h.trans k) Iu (fun hT=>(k6 t (by rw[←hdi];exact hT)).symm) (fun hT=>(k5 t (by rw[←hdi];exact hT)).1.symm) (fun k hD hT Eg=>?_)
   refine Classical.byContradiction fun hk=>?_
   have hki:k≠i:=fun e=>hi (e ▸ hD)
   obtain⟨ok,hok⟩:=Iv k (Nl k hD)
   obtain⟨c1,c2,c3⟩:=Oper.apart_spec (C.apart i k o ok (behind k (by omega) hD) ho hok)
   exact c2 t (by rw[←hdi];exact Eg) (by simpa [oG,hok] using hT)
theorem E1 (hO:cr P O) (d_:gq P ev) (hlo:gP ev) (C:Ctx P O ev ops V N M F) (h0:Ext (V 0) uk) (r:Option Nat) {Q:Exit→Act→World→Prop}
  (hQ:∀ Γ H m a w,Inv P ops V N M F oH W uk (fun k=>k<ops.length) Γ H m a w→Q .normal a w):∀ (fuel:Nat) (listed:Array Bool) (Γ:br) (H:PT ak) (m:Tm) (a:Act) (w:World),listed.size=ops.length→
   (∀ k o e,listed.getD k false=true→ops[k]? = some o→e∈o.after→Region.binds .any e=true→listed.getD e.on false=true)→
   (List.range ops.length).countP (fun k => !listed.getD k false)≤fuel→Inv P ops V N M F oH W uk (fun k=>listed.getD k false=true) Γ H m a w→wpAnyIn (Fw r) 0 P .any ⟨ops⟩ Q fuel listed a w:=by
 have lt:∀ (listed:Array Bool) k,listed.size=ops.length→listed.getD k false=true→k<ops.length:=fun listed k hs h=>by
  rcases Nat.lt_or_ge k listed.size with h' |h'
  ·omega
  ·simp[Array.getElem?_eq_none h'] at h
 have fin:∀ (listed:Array Bool) (Γ:br) (H:PT ak) (m:Tm) (a:Act) (w:World),listed.size=ops.length→(∀ k,k<ops.length→listed.getD k false=true)→
   Inv P ops V N M F oH W uk (fun k=>listed.getD k false=true) Γ H m a w→Q .normal a w:=fun listed Γ H m a w hs hall I=>by
  have:(fun k=>listed.getD k false=true)=fun k=>k<ops.length:=funext fun k=>propext ⟨lt listed k hs,hall k⟩
  rw[this] at I
  exact hQ Γ H m a w I
 have done:∀ (listed:Array Bool),listed.size=ops.length→Region.ready .any ⟨ops⟩ listed=[]→∀ k,k<ops.length→listed.getD k false=true:=by
  intro listed hs hn k
  induction k using Nat.strongRecOn with
  |ind k ih=>
   intro hk
   cases hb:listed.getD k false with
   |true=>rfl
   |false=>
    have:k∈Region.ready .any ⟨ops⟩ listed:=by
     have hok:ops[k]? = some ops[k]:=by simp[hk]
     refine mem_ready.2 ⟨?_,ops[k],by simp[hk],fun e he Jk=>?_⟩
     ·have hks:k<listed.size:=by omega
      simp[hks] at hb ⊢
      exact hb
     ·have:=C.back k _ hok e he Jk
      exact ih e.on this (by omega)
    rw[hn] at this
    simp at this
 intro fuel
 induction fuel with
 |zero=>
  intro listed Γ H m a w hs I2 hc I
  have hall:∀ k,k<ops.length→listed.getD k false=true:=fun k hk=>by
   have:=List.countP_eq_zero.1 (Nat.le_zero.1 hc) k (List.mem_range.2 hk)
   simpa using this
  refine⟨?_,fin listed Γ H m a w hs hall I⟩
  refine List.eq_nil_iff_forall_not_mem.2 fun j hj=>?_
  obtain⟨h1,o,ho,_⟩:=mem_ready.1 hj
  have hj:j<ops.length:=by
   have:=(Array.getElem?_eq_some_iff.1 ho).1
   simpa using this
  have:=hall j hj
  have hjs:j<listed.size:=by omega
  simp[hjs] at this h1
  rw[this] at h1
  exact Bool.noConfusion h1
 |succ fuel ih=>
  intro listed Γ H m a w hs I2 hc I
  refine⟨fun hn=>fin listed Γ H m a w hs (done listed hs hn) I,fun i hi=>?_⟩
  obtain⟨h1,o,ho,hall⟩:=mem_ready.1 hi
  have ho:ops[i]? = some o:=by simpa using ho
  have hil:i<ops.length:=(List.getElem?_eq_some_iff.1 ho).1
  have his:i<listed.size:=by omega
  have hif:listed.getD i false=false:=by simp[his] at h1 ⊢;exact h1
  have jO:∀ k,(listed.setIfInBounds i true).getD k false=true↔listed.getD k false=true∨k=i:=fun k=>by
   by_cases hki:k=i
   ·subst hki;simp[his]
   ·rw[getD_set_ne false (Ne.symm hki)];simp[hki]
  refine C8 hO d_ hlo C h0 (D:=fun k=>listed.getD k false=true) (D':=fun k=>(listed.setIfInBounds i true).getD k false=true) (fun k hk=>lt listed k hs hk) I ho (by simp[hif]) (fun e he hb=>hall e he hb) I2 jO r fun aS H' m' a' w' I'=>?_
  refine ih (listed.setIfInBounds i true) aS H' m' a' w' (by simpa using hs) (fun k o' e hk ho' he hb=>?_) ?_ I'
  ·rcases(jO k).1 hk with hk |rfl
   ·exact(jO _).2 (.inl (I2 k o' e hk ho' he hb))
   ·rw[ho] at ho'
    obtain rfl:o=o':=by simpa using ho'
    exact(jO _).2 (.inl (hall e he hb))
  ·have:=E0 (p:=fun k => !listed.getD k false) (q:=fun k => !(listed.setIfInBounds i true).getD k false) (fun k hk=>by
    cases hb:listed.getD k false with
    |false=>rfl
    |true=>rw[(jO k).2 (.inl hb)] at hk;simp at hk) (List.mem_range.2 hil) (by simp[hif]) (by rw[(jO i).2 (.inr rfl)];rfl)
   omega
theorem Nm (hlo:gP ev) {m:Tm} {h:PT ak} {n:Nat} {x:Tm×List bD} {s':HS} (hw:∀ id,n≤id→h.get id=none) (Q:Sy P O ev ops ops x s' V N M F) (h1:V 0=h) (h2:N 0=n)
  (hd:fO ops (aL (aO [] ops) ops.length)=true) (hf:cG x.2 (aL (aO [] ops) ops.length)=true):Ctx P O ev ops V N M F:=by
 have Iv:∀ k,k<ops.length→∃ ok,ops[k]? = some ok:=fun k hk=>⟨ops[k],by simp[hk]⟩
 rw[fO,Bool.and_eq_true] at hd
 have wf:∀ k,k≤ops.length→∀ id,N k≤id→(V k).get id=none:=by
  intro k
  induction k with
  |zero=>intro _ id hid;rw[h1];exact hw id (by omega)
  |succ k ih=>
   intro hk
   obtain⟨o,ho⟩:=Iv k (by omega)
   obtain⟨p,_⟩:=pG (P:=P) (lim:=N k) hlo ops o (M k) (V k) (N k) [] [] _ _ (Q.step k o ho) (Nat.le_refl _) (ih (by omega))
   exact p.wf
 have Nn:∀ k o,ops[k]? = some o→oE (N k) (N k) [] [] ⟨V (k+1),N (k+1),(F k).rd,(F k).wr⟩∧Sj (N k) (N (k+1)) (F k).wr (V k) (V (k+1)) (V k) (V (k+1)):=fun k o ho=>by
  have hk:k<ops.length:=(List.getElem?_eq_some_iff.1 ho).1
  obtain⟨p,q⟩:=pG (P:=P) (lim:=N k) hlo ops o (M k) (V k) (N k) [] [] _ _ (Q.step k o ho) (Nat.le_refl _) (wf k (by omega))
  obtain⟨h3,e3,u3⟩:=q (V k) (fun _ _ _ hb=>hb)
  rw[Q.step k o ho] at e3
  simp only[aH.ok.injEq,HS.mk.injEq] at e3
  obtain⟨_,rfl,_⟩:=e3
  exact⟨p,u3⟩
 have sizes:∀ k,k<ops.length→(M (k+1)).n=(M k).n∧(M (k+1)).eS=(M k).eS∧∀ t,oG ops k≠some t→(M (k+1)).get t=(M k).get t:=fun k hk=>by
  obtain⟨o,ho⟩:=Iv k hk
  obtain⟨m',_,_,_,k3,k4,k5,_⟩:=ya (mD:=M k) (Q.step k o ho) (fun _ _=>rfl) rfl
  exact⟨k3,k4,fun t ht=>(k5 t (by simpa [oG,ho] using ht)).2⟩
 have SB:∀ k,k<ops.length→N k≤N (k+1):=fun k hk=>by
  obtain⟨o,ho⟩:=Iv k hk
  exact(Nn k o ho).1.next
 refine⟨Q.step,fun k hk=>(Q.EY k hk).2,fun i j hij hj hlt=>?_,fun i j oi oj hij hi hj=>?_,fun k o ho e he hb=>?_,wf,?_,fun k hk y hy=>?_,fun k hk id hT=>?_,fun k hk t ht=>(sizes k hk).2.2 t ht,?_⟩
 ·have:=List.all_eq_true.1 hf (i,j) hij
  simp only[(Q.EY i (by omega)).1,(Q.EY j hj).1] at this
  simpa using this
 ·have:=List.all_eq_true.1 hd.1 (i,j) hij
  simpa [List.getD_eq_getElem?_getD,hi,hj] using this
 ·have:=sI hd.2 k o ho e he hb
  omega
 ·intro j k hjk
  induction k with
  |zero=>
   intro _
   obtain rfl:j=0:=by omega
   exact Nat.le_refl _
  |succ k ih=>
   intro hk
   rcases Nat.lt_or_ge j (k+1) with h |h
   ·exact Nat.le_trans (ih (by omega) (by omega)) (SB k (by omega))
   ·obtain rfl:j=k+1:=by omega
    exact Nat.le_refl _
 ·obtain⟨o,ho⟩:=Iv k hk
  obtain⟨p,_⟩:=Nn k o ho
  rcases hy with hy |hy
  ·exact(p.qw y hy).resolve_left (by simp)
  ·exact(p.qx y hy).resolve_left (by simp)
 ·obtain⟨o,ho⟩:=Iv k hk
  rcases(Nn k o ho).2 id with ⟨_,u⟩ | ⟨u,_⟩
  ·exact absurd u hT
  ·exact u
 ·intro k
  induction k with
  |zero=>intro _;exact⟨rfl,rfl⟩
  |succ k ih=>
   intro hk
   obtain⟨i1,i2⟩:=ih (by omega)
   obtain⟨j1,j2,_⟩:=sizes k (by omega)
   exact⟨j1.trans i1,j2.trans i2⟩
theorem Ar (hO:cr P O) (d_:gq P ev) (hlo:gP ev) (nk:P.follows .mixedOrders=true) {lim id:Nat} {m m':Tm} {a:Act} {s s':HS} (e:eD P O ev lim ops m s = .ok m' s') (hl:lim≤s.next) (hw:Wf s)
  (hS:bh Γ W H w) (hx:Ext s.heap H) (hm:sA Γ m a) (hf:Free Γ s.next s'.next) (r:Option Nat) {Q:Exit→Act→World→Prop}
  (hk:∀ aS w' a' H',Ex Γ aS lim s s' W H H' w'→sA aS m' a'→Q .normal a' w'):(Code.region id ⟨ops⟩ true).wpIn (Fw r) 0 P Q a w:=by
 obtain⟨LN,_⟩:=xS (P:=P) (lim:=lim) hlo ops m s.heap s.next s.rd s.wr _ _ e hl hw
 unfold eD at e
 cases hd:fO ops (aL (aO [] ops) ops.length) with
 |false=>simp[hd] at e
 |true=>
  simp only[hd,cond_true] at e
  obtain⟨x,s₁,e₁,e₂⟩:=bq e
  cases hfo:cG x.2 (aL (aO [] ops) ops.length) with
  |false=>simp[hfo] at e₂
  |true=>
   simp only[hfo,cond_true,aH.ok.injEq] at e₂
   obtain⟨rfl,hs'⟩:=e₂
   obtain⟨V,N,M,F,q,hV,hN,hM⟩:=yc ops m s.heap s.next x s₁ e₁
   have C:=Nm hlo (m:=m) hw q hV hN hd hfo
   have hs:s'.heap=s₁.heap∧s'.next=s₁.next∧∀ y,(∃ f∈x.2,y∈f.wr∧y<lim)→lim≠0→y∈s'.wr:=by
    rw[←hs']
    cases hz:Nat.beq lim 0 with
    |true=>exact⟨rfl,rfl,fun y _ h=>absurd (Nat.eq_of_beq_eq_true hz) h⟩
    |false=>
     obtain⟨m1,m2,m3,m4⟩:=nP (lim:=lim) x.2 ⟨s₁.heap,s₁.next,s.rd,s.wr⟩
     exact⟨m1,m2,fun y hy _=>(m4 y).2 (.inl hy)⟩
   have hNl:N ops.length=s'.next:=by rw[q.nE,hs.2.1]
   have h0:Ext (V 0) H:=by rw[hV];exact hx
   refine wpIn_region_any nk ?_
   refine E1 (oH:=Γ) (W:=W) (uk:=H) hO d_ hlo C h0 r (fun aS H' mD a' w' I=>?_) _ _ Γ H m a _ (by simp) (fun k o e hk=>by simp[Array.getElem?_replicate] at hk;split at hk<;>simp at hk) ?_ ?_
   ·have hmD:∀ t,mD.get t=x.1.get t:=fun t=>by
     rw[←q.mE]
     exact((I.slot t).at (fun _ _ _ h k=>h.trans k) (i:=ops.length) (fun k hk hT=>C.LL k hk t hT) rfl (fun k hk _=>hk) (fun k hk _=>hk)).symm
    have hsz:=C.sizes ops.length (Nat.le_refl _)
    rw[q.mE] at hsz
    refine hk aS w' a' H' ⟨I.le,I.rel,fun i hi=>I.out i (by rw[hNl,hN];exact hi),fun j b hb=>?_,fun j b hb=>?_,LN.next,LN.Ee⟩ ⟨⟨?_,fun t=>?_⟩,?_⟩
    ·rw[hs.1,←q.vE] at hb
     exact(I.heap j).at Aq (i:=ops.length) (fun k hk hT=>C.same k hk j hT) (h0 j) (fun k hk _=>hk) (fun k hk _=>hk) b hb
    ·by_cases hT:∃ k,k<ops.length∧(j∈(F k).wr∨(N k≤j∧j<N (k+1)))
     ·obtain⟨k,Io,hT⟩:=hT
      refine .inr ?_
      have hkN:=C.mono k ops.length (by omega) (Nat.le_refl _)
      have h0N:=C.mono 0 k (by omega) (by omega)
      have aaV:=C.mono (k+1) ops.length (by omega) (Nat.le_refl _)
      rcases hT with hT |hT
      ·have:=C.low k Io j (.inr hT)
       by_cases hlt:j<lim
       ·exact .inl (hs.2.2 j ⟨F k,List.mem_of_getElem? (q.EY k Io).1,hT,hlt⟩ (by omega))
       ·exact .inr ⟨by omega,by omega⟩
      ·exact .inr ⟨by omega,by omega⟩
     ·exact .inl ((I.heap j).still (fun k Io hT'=>hT ⟨k,Io,hT'⟩) b hb)
    ·rw[hsz.1,←I.size];exact I.fr.tm.size
    ·have h1:aA aS (mD.get t) (a'.tmps.getD t undef):=I.fr.tm.get t
     show aA aS (x.1.get t) _
     rw[←hmD t];exact h1
    ·rw[hsz.2,←I.eS];exact I.fr.df
   ·have:=List.countP_le_length (p:=fun k => !(Array.replicate (⟨ops⟩:Array Oper).size false).getD k false) (l:=List.range ops.length)
    simpa using this
   ·have hno:∀ k,¬((Array.replicate (⟨ops⟩:Array Oper).size false).getD k false=true):=fun k hk=>by
     simp[Array.getElem?_replicate] at hk;split at hk<;>simp at hk
    refine⟨.refl _,hS.drew,hm,fun _ _=>rfl,fun k Io _ j h1 h2=>?_,fun j=>⟨fun k hk=>absurd hk (hno k),fun _ b hb=>hb⟩,fun t=>⟨fun k hk=>absurd hk (hno k),fun _=>by rw[hM]⟩,by rw[hM],by rw[hM]⟩
    have h0N:=C.mono 0 k (by omega) (by omega)
    have aaV:=C.mono (k+1) ops.length (by omega) (Nat.le_refl _)
    exact hf j (by omega) (by omega)
end
end Go.Am
