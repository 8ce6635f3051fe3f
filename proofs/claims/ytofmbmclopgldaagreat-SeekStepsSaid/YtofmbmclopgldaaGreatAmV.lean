/-
A part.
-/
import Derived.Test.YtofmbmclopgldaaGreatAmU
set_option linter.all false
namespace Go.Am
open Go.RowKit
def pick(l:List Nat)(h:PT aj):PT aj:=l.foldr (fun id t=>t.set id (h.get id)) .leaf
theorem sC{l:List Nat}{h:PT aj}{id:Nat}:(pick l h).get id=if id∈l then h.get id else none:=by
 induction l with
 |nil=>simp[pick]
 |cons x l ih=>
  have:pick (x::l) h=(pick l h).set x (h.get x):=rfl;rw[this,PT.bC,ih];by_cases hx:id=x
  ·subst hx;simp
  ·simp[hx]
theorem Bv{f g:bO}(h:jM f g=false):(∀ x,x∈f.wr→x∉g.wr∧x∉g.rd)∧(∀ x,x∈f.rd→x∉g.wr)∧∀ x,x∈g.rd∨x∈g.wr→ ¬(f.lo≤x∧x<f.hi):=by
 simp only[jM,Bool.or_eq_false_iff] at h;obtain⟨⟨⟨⟨h1,h2⟩,h3⟩,h4⟩,h5⟩:=h;refine⟨fun x hx=>⟨fun hg=>oR h1 hx hg,fun hg=>oR h2 hx hg⟩,fun x hx hg=>oR h3 hx hg,fun x hx=>?_⟩
 rcases hx with hx |hx
 ·exact mg h4 hx
 ·exact mg h5 hx
def OkB(a b:Option aj):Prop:=∀ c,a=some c→b=some c
def sD(ops:List Oper)(k:Nat):Option Tmp:=(ops[k]?).bind (·.dst)
structure Ctx(P:Program)(O:Over)(ev:iL)(ops:List Oper)(V:Nat→PT aj)(N:Nat→Nat)(M:Nat→Tm)(F:Nat→bO):Prop where
 step:∀ k o,ops[k]? = some o→lW P O ev (N k) ops o (M k) ⟨V k,N k,[],[]⟩ = .ok (M (k+1)) ⟨V (k+1),N (k+1),(F k).rd,(F k).wr⟩
 apl:∀ k,k<ops.length→(F k).lo=N k∧(F k).hi=N (k+1)
 jM:∀ i j,(i,j)∈aR (aU [] ops) ops.length→j<ops.length→i<j→jM (F i) (F j)=false
 apart:∀ i j oi oj,(i,j)∈aR (aU [] ops) ops.length→ops[i]? = some oi→ops[j]? = some oj→Oper.apart ⟨ops⟩ oi oj=true
 back:∀ k o,ops[k]? = some o→∀ e∈o.after,Region.binds .any e=true→e.on<k
 wf:∀ k,k≤ops.length→∀ id,N k≤id→(V k).get id=none
 mono:∀ j k,j≤k→k≤ops.length→N j≤N k
 low:∀ k,k<ops.length→∀ y,y∈(F k).rd∨y∈(F k).wr→y<N k
 same:∀ k,k<ops.length→∀ id,¬(id∈(F k).wr∨(N k≤id∧id<N (k+1)))→(V (k+1)).get id=(V k).get id
 VZ:∀ k,k<ops.length→∀ t,sD ops k≠some t→(M (k+1)).get t=(M k).get t
 sizes:∀ k,k≤ops.length→(M k).n=(M 0).n∧(M k).fF=(M 0).fF
structure Inv(P:Program)(ops:List Oper)(V:Nat→PT aj)(N:Nat→Nat)(M:Nat→Tm)(F:Nat→bO)(sE:bL)(W:World)(zB:PT aj)(D:Nat→Prop)(Γ:bL)(H:PT aj)(m:Tm)(a:Act)(w:World):Prop where
 le:sE.le Γ
 rel:bK Γ W H w
 fr:xj Γ m a
 out:∀ i,¬(N 0≤i∧i<N ops.length)→Γ.blk i=sE.blk i
 free:∀ k,k<ops.length→ ¬D k→Free Γ (N k) (N (k+1))
 heap:∀ id,Yc OkB D (fun k=>id∈(F k).wr∨(N k≤id∧id<N (k+1))) (fun k=>(V k).get id) (zB.get id) (H.get id)
 slot:∀ t,Yc Eq D (fun k=>sD ops k=some t) (fun k=>(M k).get t) ((M 0).get t) (m.get t)
 size:m.n=(M 0).n
 fF:m.fF=(M 0).fF
theorem Gp:∀ a b c,OkB a b→OkB b c→OkB a c:=fun _ _ _ h k x hx=>k x (h x hx)
section
variable {P:Program} {O:Over} {ev:iL} {ops:List Oper} {V:Nat→PT aj} {N:Nat→Nat} {M:Nat→Tm} {F:Nat→bO} {sE Γ:bL} {W w:World} {zB H:PT aj}
theorem J6(hO:cU P O)(fY:iY P ev)(hlo:jz ev)(C:Ctx P O ev ops V N M F)(h0:Ext (V 0) zB){D D':Nat→Prop}(Yd:∀ k,D k→k<ops.length){m:Tm}{a:Act}(I:Inv P ops V N M F sE W zB D Γ H m a w)
  {i:Nat} {o:Oper} (ho:ops[i]? = some o) (hi: ¬ D i) (hr:∀ e,e∈o.after→Region.binds .any e=true→D e.on)
  (LM:∀ k o e,D k→ops[k]? = some o→e∈o.after→Region.binds .any e=true→D e.on) (Ry:∀ k,D' k↔D k∨k=i) (r:Option Nat) {K:Act→World→Prop} {Q:Exit→Act→World→Prop}
  (hK:∀ aY H' m' a' w',Inv P ops V N M F sE W zB D' aY H' m' a' w'→K a' w'):wpOpIn (Fw r) 0 P ⟨ops⟩ Q i K a w:=by
 have hil:i<ops.length:=(List.getElem?_eq_some_iff.1 ho).1;have Rz:∀ k,k<ops.length→∃ ok,ops[k]? = some ok:=fun k hk=>⟨ops[k],by simp[hk]⟩;have before:∀ k,k<i→ ¬D k→(k,i)∈aR (aU [] ops) ops.length:=fun k hk hD=>by
  refine tV hk hil ?_;cases hb:((aU [] ops).getD i 0).testBit k with
  |false=>rfl
  |true=>exact absurd (xu LM i o k ho hr hb) hD
 have behind:∀ k,i<k→D k→(i,k)∈aR (aU [] ops) ops.length:=fun k hk hD=>by
  refine tV hk (Yd k hD) ?_;cases hb:((aU [] ops).getD k 0).testBit i with
  |false=>rfl
  |true=>
   obtain⟨ok,hok⟩:=Rz k (Yd k hD);exact absurd (xu LM k ok i hok (fun e he ME=>LM k ok e hD hok he ME) hb) hi
 have V0:=C.apl;have hNi:=C.mono i (i+1) qJ qJ;have needs:∀ id,(id∈(F i).rd∨id∈(F i).wr)→OkB ((V i).get id) (H.get id):=fun id hid=>by
  have iI:=C.low i hil id hid;refine(I.heap id).at Gp (fun k hk hT=>C.same k qJ id hT) (h0 id) (fun k hk hT=>?_) (fun k hD hT=>?_)
  ·refine Classical.byContradiction fun hD=>?_;obtain⟨c1,c2,c3⟩:=Bv (C.jM k i (before k hk hD) hil hk)
   rcases hT with hT |hT
   ·rcases hid with h |h
    ·exact(c1 id hT).2 h
    ·exact(c1 id hT).1 h
   ·obtain⟨l1,l2⟩:=V0 k qJ;exact c3 id hid (by rw[l1,l2];exact hT)
  ·refine Classical.byContradiction fun hk=>?_;have hki:k≠i:=fun e=>hi (e ▸ hD);have hik:i<k:=by omega
   obtain⟨c1,c2,c3⟩:=Bv (C.jM i k (behind k hik hD) (Yd k hD) hik)
   rcases hT with hT |hT
   ·rcases hid with h |h
    ·exact c2 id h hT
    ·exact(c1 id h).1 hT
   ·have:=C.mono i k qJ (by have:=Yd k hD;omega);omega
 have looks:∀ t,t∈o.looksAt ⟨ops⟩→m.get t=(M i).get t:=fun t ht=>by
  refine((I.slot t).at (fun _ _ _ h k=>h.trans k) (i:=i) (fun k hk hT=>C.VZ k qJ t hT) rfl (fun k hk hT=>?_) (fun k hD hT=>?_)).symm
  ·refine Classical.byContradiction fun hD=>?_;obtain⟨ok,hok⟩:=Rz k qJ;obtain⟨c1,c2,c3⟩:=Oper.apart_spec (C.apart k i ok o (before k hk hD) hok ho);exact c1 t (by simpa [sD,hok] using hT) ht
  ·refine Classical.byContradiction fun hk=>?_;have hki:k≠i:=fun e=>hi (e ▸ hD);obtain⟨ok,hok⟩:=Rz k (Yd k hD);obtain⟨c1,c2,c3⟩:=Oper.apart_spec (C.apart i k o ok (behind k qJ hD) ho hok);exact c3 t (by simpa [sD,hok] using hT) ht
 have e:=C.step i o ho;obtain⟨p,q⟩:=tT (P:=P) (lim:=N i) hlo ops o (M i) (V i) (N i) [] [] _ _ e (Nat.le_refl _) (C.wf i qJ);obtain⟨h2',e2,u2⟩:=q (pick ((F i).rd++(F i).wr) (V i)) (fun id b hid hb=>by
  rw[sC]
  rcases hid with hid |hid |hid
  ·rw[if_pos (List.mem_append_left _ hid)];exact hb
  ·rw[if_pos (List.mem_append_right _ hid)];exact hb
  ·rw[C.wf i qJ id hid] at hb;simp at hb)
 obtain⟨m',e3,k1,k2,k3,k4,k5,k6⟩:=DF e2 looks (by rw[I.size,(C.sizes i qJ).1]);refine DE hO fY hlo ho e3 (Nat.le_refl _) (fun id hid=>?_) I.rel (fun id b hb=>?_) I.fr (I.free i hil hi) r fun aY w' a' H' hex hfr=>hK aY H' m' a' w' ?_
 ·show (pick _ _).get id=none
  rw[sC];split
  ·rename_i hin;have:=C.low i hil id (List.mem_append.1 hin);have hid:N i≤id:=hid;omega
  ·rfl
 ·have hb:(pick _ _).get id=some b:=hb;rw[sC] at hb;split at hb
  ·rename_i hin;exact needs id (List.mem_append.1 hin) b hb
  ·simp at hb
 ·have hout:∀ j,¬(N i≤j∧j<N (i+1))→aY.blk j=Γ.blk j:=hex.out;have hkeep:Keep (N i) (N (i+1)) (F i).wr H H':=hex.keep;have hsub:Ext h2' H':=hex.sub;have hN0:=C.mono 0 i qJ qJ;have hNl:=C.mono (i+1) ops.length qJ qJ;refine⟨I.le.trans hex.le,hex.rel,hfr,fun j hj=>?_,fun k hk hD=>?_,fun id=>?_,fun t=>?_,k1.trans I.size,k2.trans I.fF⟩
  ·rw[hout j qJ];exact I.out j hj
  ·have hDk: ¬ D k:=fun h=>hD ((Ry k).2 (.inl h));have hki:k≠i:=fun h=>hD ((Ry k).2 (.inr h));intro j h1 h2;rw[hout j ?_]
   ·exact I.free k hk hDk j h1 h2
   ·rintro ⟨h3,h4⟩
    rcases Nat.lt_or_ge k i with h |h
    ·have:=C.mono (k+1) i qJ qJ;omega
    ·have:=C.mono (i+1) k qJ qJ;omega
  ·refine(I.heap id).step Gp Ry (fun hT b hb=>?_) (fun hT b hb=>?_) (fun k hD hT LR=>?_)
   ·rcases u2 id with ⟨u,_⟩ | ⟨u,u'⟩
    ·exact hsub id b (by rw[u];exact hb)
    ·have hb:(V (i+1)).get id=some b:=hb;have u':(V (i+1)).get id=(V i).get id:=u';rw[u'] at hb
     rcases hT with hT |hT
     ·refine hsub id b (by rw[u,sC,if_pos (List.mem_append_right _ hT)];exact hb)
     ·rw[C.wf i qJ id hT.1] at hb;simp at hb
   ·rcases hkeep id b hb with h |h
    ·exact h
    ·exact absurd h hT
   ·refine Classical.byContradiction fun hk=>?_;have hki:k≠i:=fun e=>hi (e ▸ hD);have hik:i<k:=by omega
    have Rv:=Yd k hD;obtain⟨c1,c2,c3⟩:=Bv (C.jM i k (behind k hik hD) Rv hik);have hNk:=C.mono (i+1) k qJ qJ
    rcases LR with LR |LR
    ·have:=C.low i hil id (.inr LR)
     rcases hT with hT |hT
     ·exact(c1 id LR).1 hT
     ·omega
    ·rcases hT with hT |hT
     ·obtain⟨l1,l2⟩:=V0 i hil;exact c3 id (.inr hT) (by rw[l1,l2];exact LR)
     ·omega
  ·have V3:sD ops i=o.dst:=by simp[sD,ho]
   refine(I.slot t).step (fun _ _ _ h k=>h.trans k) Ry (fun hT=>(k6 t (by rw[←V3];exact hT)).symm) (fun hT=>(k5 t (by rw[←V3];exact hT)).1.symm) (fun k hD hT LR=>?_);refine Classical.byContradiction fun hk=>?_;have hki:k≠i:=fun e=>hi (e ▸ hD);obtain⟨ok,hok⟩:=Rz k (Yd k hD);obtain⟨c1,c2,c3⟩:=Oper.apart_spec (C.apart i k o ok (behind k qJ hD) ho hok);exact c2 t (by rw[←V3];exact LR) (by simpa [sD,hok] using hT)
theorem MH(hO:cU P O)(fY:iY P ev)(hlo:jz ev)(C:Ctx P O ev ops V N M F)(h0:Ext (V 0) zB)(r:Option Nat){Q:Exit→Act→World→Prop}
  (hQ:∀ Γ H m a w,Inv P ops V N M F sE W zB (fun k=>k<ops.length) Γ H m a w→Q .normal a w):∀ (fuel:Nat) (listed:Array Bool) (Γ:bL) (H:PT aj) (m:Tm) (a:Act) (w:World),listed.size=ops.length→
   (∀ k o e,listed.getD k false=true→ops[k]? = some o→e∈o.after→Region.binds .any e=true→listed.getD e.on false=true)→
   (List.range ops.length).countP (fun k => !listed.getD k false)≤fuel→Inv P ops V N M F sE W zB (fun k=>listed.getD k false=true) Γ H m a w→wpAnyIn (Fw r) 0 P .any ⟨ops⟩ Q fuel listed a w:=by
 have lt:∀ (listed:Array Bool) k,listed.size=ops.length→listed.getD k false=true→k<ops.length:=fun listed k hs h=>by
  rcases Nat.lt_or_ge k listed.size with h' |h'
  ·omega
  ·simp[Array.getElem?_eq_none h'] at h
 have fin:∀ (listed:Array Bool) (Γ:bL) (H:PT aj) (m:Tm) (a:Act) (w:World),listed.size=ops.length→(∀ k,k<ops.length→listed.getD k false=true)→
   Inv P ops V N M F sE W zB (fun k=>listed.getD k false=true) Γ H m a w→Q .normal a w:=fun listed Γ H m a w hs hall I=>by
  have:(fun k=>listed.getD k false=true)=fun k=>k<ops.length:=funext fun k=>propext ⟨lt listed k hs,hall k⟩;rw[this] at I;exact hQ Γ H m a w I
 have done:∀ (listed:Array Bool),listed.size=ops.length→Region.ready .any ⟨ops⟩ listed=[]→∀ k,k<ops.length→listed.getD k false=true:=by
  intro listed hs hn k
  induction k using Nat.strongRecOn with
  |ind k ih=>
   intro hk;cases hb:listed.getD k false with
   |true=>rfl
   |false=>
    have:k∈Region.ready .any ⟨ops⟩ listed:=by
     have hok:ops[k]? = some ops[k]:=by simp[hk]
     refine mem_ready.2 ⟨?_,ops[k],by simp[hk],fun e he ME=>?_⟩
     ·have hks:k<listed.size:=by omega
      simp[hks] at hb ⊢;exact hb
     ·have:=C.back k _ hok e he ME;exact ih e.on this qJ
    rw[hn] at this;simp at this
 intro fuel
 induction fuel with
 |zero=>
  intro listed Γ H m a w hs LM hc I;have hall:∀ k,k<ops.length→listed.getD k false=true:=fun k hk=>by
   have:=List.countP_eq_zero.1 (Nat.le_zero.1 hc) k (List.mem_range.2 hk)
   simpa using this
  refine⟨?_,fin listed Γ H m a w hs hall I⟩;refine List.eq_nil_iff_forall_not_mem.2 fun j hj=>?_;obtain⟨h1,o,ho,_⟩:=mem_ready.1 hj;have hj:j<ops.length:=by
   have:=(Array.getElem?_eq_some_iff.1 ho).1
   simpa using this
  have:=hall j hj;have hjs:j<listed.size:=by omega
  simp[hjs] at this h1;rw[this] at h1;exact Bool.noConfusion h1
 |succ fuel ih=>
  intro listed Γ H m a w hs LM hc I;refine⟨fun hn=>fin listed Γ H m a w hs (done listed hs hn) I,fun i hi=>?_⟩;obtain⟨h1,o,ho,hall⟩:=mem_ready.1 hi;have ho:ops[i]? = some o:=by simpa using ho
  have hil:i<ops.length:=(List.getElem?_eq_some_iff.1 ho).1;have his:i<listed.size:=by omega
  have hif:listed.getD i false=false:=by simp[his] at h1 ⊢;exact h1
  have j8:∀ k,(listed.setIfInBounds i true).getD k false=true↔listed.getD k false=true∨k=i:=fun k=>by
   by_cases hki:k=i
   ·subst hki;simp[his]
   ·rw[getD_set_ne false (Ne.symm hki)];simp[hki]
  refine J6 hO fY hlo C h0 (D:=fun k=>listed.getD k false=true) (D':=fun k=>(listed.setIfInBounds i true).getD k false=true) (fun k hk=>lt listed k hs hk) I ho (by simp[hif]) (fun e he hb=>hall e he hb) LM j8 r fun aY H' m' a' w' I'=>?_;refine ih (listed.setIfInBounds i true) aY H' m' a' w' (by simpa using hs) (fun k o' e hk ho' he hb=>?_) ?_ I'
  ·rcases(j8 k).1 hk with hk|rfl
   ·exact(j8 _).2 (.inl (LM k o' e hk ho' he hb))
   ·rw[ho] at ho';obtain rfl:o=o':=by simpa using ho'
    exact(j8 _).2 (.inl (hall e he hb))
  ·have:=MG (p:=fun k => !listed.getD k false) (q:=fun k => !(listed.setIfInBounds i true).getD k false) (fun k hk=>by
    cases hb:listed.getD k false with
    |false=>rfl
    |true=>rw[(j8 k).2 (.inl hb)] at hk;simp at hk) (List.mem_range.2 hil) (by simp[hif]) (by rw[(j8 i).2 (.inr rfl)];rfl)
   omega
theorem Ye(hlo:jz ev){m:Tm}{h:PT aj}{n:Nat}{x:Tm×List bO}{s':HS}(hw:∀ id,n≤id→h.get id=none)(Q:ac3 P O ev ops ops x s' V N M F)(h1:V 0=h)(h2:N 0=n)
  (hd:g9 ops (aR (aU [] ops) ops.length)=true) (hf:dc x.2 (aR (aU [] ops) ops.length)=true):Ctx P O ev ops V N M F:=by
 have Rz:∀ k,k<ops.length→∃ ok,ops[k]? = some ok:=fun k hk=>⟨ops[k],by simp[hk]⟩;rw[g9,Bool.and_eq_true] at hd;have wf:∀ k,k≤ops.length→∀ id,N k≤id→(V k).get id=none:=by
  intro k
  induction k with
  |zero=>intro _ id hid;rw[h1];exact hw id qJ
  |succ k ih=>
   intro hk;obtain⟨o,ho⟩:=Rz k qJ;obtain⟨p,_⟩:=tT (P:=P) (lim:=N k) hlo ops o (M k) (V k) (N k) [] [] _ _ (Q.step k o ho) (Nat.le_refl _) (ih qJ);exact p.wf
 have Yf:∀ k o,ops[k]? = some o→sy (N k) (N k) [] [] ⟨V (k+1),N (k+1),(F k).rd,(F k).wr⟩∧Upd (N k) (N (k+1)) (F k).wr (V k) (V (k+1)) (V k) (V (k+1)):=fun k o ho=>by
  have hk:k<ops.length:=(List.getElem?_eq_some_iff.1 ho).1;obtain⟨p,q⟩:=tT (P:=P) (lim:=N k) hlo ops o (M k) (V k) (N k) [] [] _ _ (Q.step k o ho) (Nat.le_refl _) (wf k qJ);obtain⟨h3,e3,u3⟩:=q (V k) (fun _ _ _ hb=>hb);rw[Q.step k o ho] at e3;simp only[aO.ok.injEq,HS.mk.injEq] at e3;obtain⟨_,rfl,_⟩:=e3;exact⟨p,u3⟩
 have sizes:∀ k,k<ops.length→(M (k+1)).n=(M k).n∧(M (k+1)).fF=(M k).fF∧∀ t,sD ops k≠some t→(M (k+1)).get t=(M k).get t:=fun k hk=>by
  obtain⟨o,ho⟩:=Rz k hk;obtain⟨m',_,_,_,k3,k4,k5,_⟩:=DF (mD:=M k) (Q.step k o ho) (fun _ _=>rfl) rfl;exact⟨k3,k4,fun t ht=>(k5 t (by simpa [sD,ho] using ht)).2⟩
 have ac6:∀ k,k<ops.length→N k≤N (k+1):=fun k hk=>by
  obtain⟨o,ho⟩:=Rz k hk;exact(Yf k o ho).1.next
 refine⟨Q.step,fun k hk=>(Q.MD k hk).2,fun i j hij hj hlt=>?_,fun i j oi oj hij hi hj=>?_,fun k o ho e he hb=>?_,wf,?_,fun k hk y hy=>?_,fun k hk id hT=>?_,fun k hk t ht=>(sizes k hk).2.2 t ht,?_⟩
 ·have:=List.all_eq_true.1 hf (i,j) hij;simp only[(Q.MD i qJ).1,(Q.MD j hj).1] at this
  simpa using this
 ·have:=List.all_eq_true.1 hd.1 (i,j) hij
  simpa [List.getD_eq_getElem?_getD,hi,hj] using this
 ·have:=xw hd.2 k o ho e he hb;omega
 ·intro j k hjk
  induction k with
  |zero=>
   intro _;obtain rfl:j=0:=by omega
   exact Nat.le_refl _
  |succ k ih=>
   intro hk
   rcases Nat.lt_or_ge j (k+1) with h |h
   ·exact Nat.le_trans (ih qJ qJ) (ac6 k qJ)
   ·obtain rfl:j=k+1:=by omega
    exact Nat.le_refl _
 ·obtain⟨o,ho⟩:=Rz k hk;obtain⟨p,_⟩:=Yf k o ho
  rcases hy with hy |hy
  ·exact(p.uS y hy).resolve_left (by simp)
  ·exact(p.uT y hy).resolve_left (by simp)
 ·obtain⟨o,ho⟩:=Rz k hk
  rcases(Yf k o ho).2 id with ⟨_,u⟩ | ⟨u,_⟩
  ·exact absurd u hT
  ·exact u
 ·intro k
  induction k with
  |zero=>intro _;exact⟨rfl,rfl⟩
  |succ k ih=>
   intro hk;obtain⟨i1,i2⟩:=ih qJ;obtain⟨j1,j2,_⟩:=sizes k qJ;exact⟨j1.trans i1,j2.trans i2⟩
theorem Gq(hO:cU P O)(fY:iY P ev)(hlo:jz ev)(qw:P.follows .mixedOrders=true){lim id:Nat}{m m':Tm}{a:Act}{s s':HS}(e:fJ P O ev lim ops m s = .ok m' s')(hl:lim≤s.next)(hw:Wf s)
  (hS:bK Γ W H w) (hx:Ext s.heap H) (hm:xj Γ m a) (hf:Free Γ s.next s'.next) (r:Option Nat) {Q:Exit→Act→World→Prop}
  (hk:∀ aY w' a' H',Ex Γ aY lim s s' W H H' w'→xj aY m' a'→Q .normal a' w'):(Code.region id ⟨ops⟩ true).wpIn (Fw r) 0 P Q a w:=by
 obtain⟨V4,_⟩:=Du (P:=P) (lim:=lim) hlo ops m s.heap s.next s.rd s.wr _ _ e hl hw;unfold fJ at e;cases hd:g9 ops (aR (aU [] ops) ops.length) with
 |false=>simp[hd] at e
 |true=>
  simp only[hd,cond_true] at e;obtain⟨x,s₁,e₁,e₂⟩:=bE e;cases hfo:dc x.2 (aR (aU [] ops) ops.length) with
  |false=>simp[hfo] at e₂
  |true=>
   simp only[hfo,cond_true,aO.ok.injEq] at e₂;obtain⟨rfl,hs'⟩:=e₂;obtain⟨V,N,M,F,q,hV,hN,hM⟩:=DG ops m s.heap s.next x s₁ e₁;have C:=Ye hlo (m:=m) hw q hV hN hd hfo;have hs:s'.heap=s₁.heap∧s'.next=s₁.next∧∀ y,(∃ f∈x.2,y∈f.wr∧y<lim)→lim≠0→y∈s'.wr:=by
    rw[←hs'];cases hz:Nat.beq lim 0 with
    |true=>exact⟨rfl,rfl,fun y _ h=>absurd (Nat.eq_of_beq_eq_true hz) h⟩
    |false=>
     obtain⟨m1,m2,m3,m4⟩:=qV (lim:=lim) x.2 ⟨s₁.heap,s₁.next,s.rd,s.wr⟩;exact⟨m1,m2,fun y hy _=>(m4 y).2 (.inl hy)⟩
   have hNl:N ops.length=s'.next:=by rw[q.nE,hs.2.1]
   have h0:Ext (V 0) H:=by rw[hV];exact hx
   refine wpIn_region_any qw ?_;refine MH (sE:=Γ) (W:=W) (zB:=H) hO fY hlo C h0 r (fun aY H' mD a' w' I=>?_) _ _ Γ H m a _ (by simp) (fun k o e hk=>by simp[Array.getElem?_replicate] at hk;split at hk<;>simp at hk) ?_ ?_
   ·have hmD:∀ t,mD.get t=x.1.get t:=fun t=>by
     rw[←q.mE];exact((I.slot t).at (fun _ _ _ h k=>h.trans k) (i:=ops.length) (fun k hk hT=>C.VZ k hk t hT) rfl (fun k hk _=>hk) (fun k hk _=>hk)).symm
    have hsz:=C.sizes ops.length (Nat.le_refl _);rw[q.mE] at hsz;refine hk aY w' a' H' ⟨I.le,I.rel,fun i hi=>I.out i (by rw[hNl,hN];exact hi),fun j b hb=>?_,fun j b hb=>?_,V4.next,V4.LQ⟩ ⟨⟨?_,fun t=>?_⟩,?_⟩
    ·rw[hs.1,←q.vE] at hb;exact(I.heap j).at Gp (i:=ops.length) (fun k hk hT=>C.same k hk j hT) (h0 j) (fun k hk _=>hk) (fun k hk _=>hk) b hb
    ·by_cases hT:∃ k,k<ops.length∧(j∈(F k).wr∨(N k≤j∧j<N (k+1)))
     ·obtain⟨k,Rv,hT⟩:=hT;refine .inr ?_;have hkN:=C.mono k ops.length qJ (Nat.le_refl _);have h0N:=C.mono 0 k qJ qJ;have apm:=C.mono (k+1) ops.length qJ (Nat.le_refl _)
      rcases hT with hT |hT
      ·have:=C.low k Rv j (.inr hT);by_cases hlt:j<lim
       ·exact .inl (hs.2.2 j ⟨F k,List.mem_of_getElem? (q.MD k Rv).1,hT,hlt⟩ qJ)
       ·exact .inr ⟨by omega,by omega⟩
      ·exact .inr ⟨by omega,by omega⟩
     ·exact .inl ((I.heap j).still (fun k Rv hT'=>hT ⟨k,Rv,hT'⟩) b hb)
    ·rw[hsz.1,←I.size];exact I.fr.tm.size
    ·have h1:aD aY (mD.get t) (a'.tmps.getD t undef):=I.fr.tm.get t
     show aD aY (x.1.get t) _
     rw[←hmD t];exact h1
    ·rw[hsz.2,←I.fF];exact I.fr.df
   ·have:=List.countP_le_length (p:=fun k => !(Array.replicate (⟨ops⟩:Array Oper).size false).getD k false) (l:=List.range ops.length)
    simpa using this
   ·have hno:∀ k,¬((Array.replicate (⟨ops⟩:Array Oper).size false).getD k false=true):=fun k hk=>by
     simp[Array.getElem?_replicate] at hk;split at hk<;>simp at hk
    refine⟨.refl _,hS.drew,hm,fun _ _=>rfl,fun k Rv _ j h1 h2=>?_,fun j=>⟨fun k hk=>absurd hk (hno k),fun _ b hb=>hb⟩,fun t=>⟨fun k hk=>absurd hk (hno k),fun _=>by rw[hM]⟩,by rw[hM],by rw[hM]⟩;have h0N:=C.mono 0 k qJ qJ;have apm:=C.mono (k+1) ops.length qJ (Nat.le_refl _);exact hf j qJ qJ
end
end Go.Am
