/-
A part.
-/
import Derived.Test.YtofmbmclopgldaaGreatAmX5
set_option linter.all false
namespace Go.Am
open Go.RowKit
theorem j9{α:Type}(lim:Nat):∀ (p:AP α) (h:PT aj) (n:Nat) (rd wr:List Nat) (a:α) (s':HS),p.run lim ⟨h,n,rd,wr⟩ = .ok a s'→p.run 0 (S0 h n) = .ok a (S0 s'.heap s'.next)
 | .pure a,h,n,rd,wr,b,s',e=>by simp only[AP.run,aO.ok.injEq] at e;obtain⟨rfl,rfl⟩:=e;rfl
 | .fail w,h,n,rd,wr,b,s',e=>by simp[AP.run] at e
 | .get id k,h,n,rd,wr,b,s',e=>by
  simp only[AP.run] at e;cases hb:h.get id with
  |none=>rw[hb] at e;simp at e
  |some B=>
   rw[hb] at e;simp only at e;simp only[AP.run,show (S0 h n).heap=h from rfl,hb,show Nat.blt id 0=false from rfl,cond_false];cases hl:Nat.blt id lim with
   |true=>rw[hl] at e;exact j9 lim (k B) h n _ _ b s' e
   |false=>rw[hl] at e;exact j9 lim (k B) h n _ _ b s' e
 | .set id B k,h,n,rd,wr,b,s',e=>by
  simp only[AP.run] at e;cases hb:h.get id with
  |none=>rw[hb] at e;simp at e
  |some B'=>
   rw[hb] at e;simp only at e;simp only[AP.run,show (S0 h n).heap=h from rfl,hb,show Nat.blt id 0=false from rfl,cond_false];cases hl:Nat.blt id lim with
   |true=>rw[hl] at e;exact j9 lim k (h.set id (some B)) n _ _ b s' e
   |false=>rw[hl] at e;exact j9 lim k (h.set id (some B)) n _ _ b s' e
 | .kill id k,h,n,rd,wr,b,s',e=>by
  simp only[AP.run] at e;cases hb:h.get id with
  |none=>rw[hb] at e;simp at e
  |some B'=>
   rw[hb] at e;simp only at e;simp only[AP.run,show (S0 h n).heap=h from rfl,hb,show Nat.blt id 0=false from rfl,cond_false];cases hl:Nat.blt id lim with
   |true=>rw[hl] at e;exact j9 lim k (h.set id none) n _ _ b s' e
   |false=>rw[hl] at e;exact j9 lim k (h.set id none) n _ _ b s' e
 | .new B k,h,n,rd,wr,b,s',e=>by
  simp only[AP.run] at e;exact j9 lim (k n) (h.set n (some B)) (n+1) rd wr b s' e
theorem oT{α:Type}:∀ (p:AP α) (h:PT aj) (n:Nat) (a:α) (h':PT aj) (n':Nat),p.run 0 (S0 h n) = .ok a (S0 h' n')→n≤n'∧∀ i,h'.get i≠none→h.get i≠none∨(n≤i∧i<n')
 | .pure a,h,n,b,h',n',e=>by simp only[AP.run,aO.ok.injEq,S0,HS.mk.injEq] at e;obtain⟨_,rfl,rfl,_⟩:=e;exact⟨Nat.le_refl _,fun i hi => .inl hi⟩
 | .fail w,h,n,b,h',n',e=>by simp[AP.run] at e
 | .get id k,h,n,b,h',n',e=>by
  simp only[AP.run] at e;split at e
  ·simp at e
  ·exact oT _ h n b h' n' e
 | .set id B k,h,n,b,h',n',e=>by
  simp only[AP.run] at e;split at e
  ·simp at e
  ·rename_i c hc;obtain⟨h1,h2⟩:=oT k (h.set id (some B)) n b h' n' e;refine⟨h1,fun i hi=>(h2 i hi).imp (fun hn=>?_) (fun q=>q)⟩;rw[PT.bC] at hn;split at hn
   ·rename_i hid;subst hid;rw[show h.get i=some c from hc];simp
   ·exact hn
 | .kill id k,h,n,b,h',n',e=>by
  simp only[AP.run] at e;split at e
  ·simp at e
  ·rename_i c hc;obtain⟨h1,h2⟩:=oT k (h.set id none) n b h' n' e;refine⟨h1,fun i hi=>(h2 i hi).imp (fun hn=>?_) (fun q=>q)⟩;rw[PT.bC] at hn;split at hn
   ·exact absurd rfl hn
   ·exact hn
 | .new B k,h,n,b,h',n',e=>by
  simp only[AP.run] at e;obtain⟨h1,h2⟩:=oT (k n) (h.set n (some B)) (n+1) b h' n' e;refine⟨by omega,fun i hi=>?_⟩
  rcases h2 i hi with hn | ⟨h3,h4⟩
  ·rw[PT.bC] at hn;split at hn
   ·rename_i hin;subst hin;exact .inr ⟨Nat.le_refl _,h1⟩
   ·exact .inl hn
  ·exact .inr ⟨by omega,h4⟩
theorem bZ.old{Γ:bL}:∀ {l:List (Value×Value×Nat)} {l':List MapEntry},bZ Γ l l'→∀ {e:Value×Value×Nat},e∈l→(∃ u,aD Γ e.1 u)∧∃ u,aD Γ e.2.1 u
 | _,_,.cons _ _ _ _ hk hv _ t,e,he=>by
  rcases List.mem_cons.1 he with rfl |he
  ·exact⟨⟨_,hk⟩,⟨_,hv⟩⟩
  ·exact t.old he
structure V7(h:PT aj)(args:List Value)(Old:Value→Prop)(eS:Nat→Prop):Prop where
 cells:∀ i c ro o v,h.get i=some (.cells c ro)→c.get o=some v→Old v
 maps:∀ i es clk e,h.get i=some (.map es clk)→e∈es→Old e.1∧Old e.2.1
 args:∀ v∈args,Old v
 agg:∀ l v,Old (.agg ⟨l⟩)→v∈l→Old v
 tuple:∀ l v,Old (.tuple ⟨l⟩)→v∈l→Old v
 iface:∀ t v,Old (.iface t v)→Old v
 id:∀ i B,h.get i=some B→eS i
 ptr:∀ a,Old (.pointer (some a))→eS a.block
 slice:∀ a n c,0<c→Old (.slice (some a) n c)→eS a.block
 map:∀ r,Old (.map (some r))→eS r
 rows:∀ i c ro,h.get i=some (.cells c ro)→∃ L,c = .ofList .leaf 0 L
def Ij(eS:Nat→Prop)(n n1:Nat)(σ:Nat→Nat)(j j':Nat):Prop:=(eS j∧j'=j)∨(n≤j∧j<n1∧j'=σ j)
def sg(σ:Nat→Nat)(n n1 i:Nat):Nat:=if n≤i∧i<n1 then σ i else i
def Ren(h:PT aj)(n n1 N:Nat)(Old:Value→Prop)(eS:Nat→Prop)(v:Value)(h1:PT aj)(v2:Value)(h2:PT aj):Prop:=
 ∃ σ:Nat→Nat,(∀ i,n≤i→i<n1→N≤σ i)∧(∀ i j,n≤i→i<n1→n≤j→j<n1→σ i=σ j→i=j)∧jc (Ij eS n n1 σ) Old v v2∧
  ∀ i B,h1.get i=some B→(h.get i=some B∧h2.get i=some B)∨∃ B2,h2.get (sg σ n n1 i)=some B2∧GI (Ij eS n n1 σ) Old B B2
def bG(P:Program)(f:FuncId)(spec:List Value→Option (AP Value)):Prop:=
 ∀ args m,spec args=some m→∀ (Γ:bL) (W w:World) (h:PT aj) (n lim:Nat) (rd wr:List Nat) (args':List Value) (v:Value) (s':HS),aM Γ args args'→bK Γ W h w→m.run lim ⟨h,n,rd,wr⟩ = .ok v s'→Free Γ n s'.next→
  CallsIn Fence.wide 0 P f ⟨args'⟩ w fun e w'=>∃ aY v',e = .returned v'∧Γ.le aY∧bK aY W s'.heap w'∧(∀ i,¬(n≤i∧i<s'.next)→aY.blk i=Γ.blk i)∧aD aY v v'
abbrev Tab:=List (FuncId×(List Value→Option (AP Value)))
def gG:Tab→Over
 | [],_,_=>none
 | (g,s)::l,f,args=>cond (Nat.beq f g) (s args) (gG l f args)
def Ah(P:Program)(l:Tab):Prop:=∀ p∈l,bG P p.1 p.2
theorem Ah.nil{P:Program}:Ah P []:=fun p h=>by simp at h
theorem Ah.cons{P:Program}{f:FuncId}{s:List Value→Option (AP Value)}{l:Tab}(h:bG P f s)(t:Ah P l):Ah P ((f,s)::l):=by
 intro p hp
 rcases List.mem_cons.1 hp with rfl |hp
 ·exact h
 ·exact t p hp
theorem aV{P:Program}:∀ {l:Tab},Ah P l→cU P (gG l)
 | [],_,f,args,m,e=>by simp[gG] at e
 | (g,s)::l,h,f,args,m,e=>by
  simp only[gG] at e;cases hb:Nat.beq f g with
  |true=>
   rw[hb] at e;obtain rfl:=Nat.eq_of_beq_eq_true hb;exact h (f,s) (by simp) args m e
  |false=>
   rw[hb] at e;exact aV (fun p hp=>h p (List.mem_cons_of_mem _ hp)) f args m e
theorem bK.sub{Γ:bL}{W w:World}{h h':PT aj}(hS:bK Γ W h w)(hx:Ext h' h):bK Γ W h' w:=
 ⟨hS.below,hS.fz,fun i B hi=>hS.live i B (hx i B hi),fun i j B B' b s b' s' hij hi hj=>hS.ng i j B B' b s b' s' hij (hx _ _ hi) (hx _ _ hj),hS.dom,hS.jo,hS.fin,fun i c ro hi=>hS.rows i c ro (hx _ _ hi)⟩
theorem xE{P:Program}{O:Over}(hO:cU P O)(qw:P.follows .mixedOrders=true){f:FuncId}{spec:List Value→Option (AP Value)}
  (H:∀ args m,spec args=some m→∀ (h:PT aj) (n N:Nat) (Old:Value→Prop) (eS:Nat→Prop) (v:Value) (h1:PT aj) (n1:Nat),m.run 0 (S0 h n) = .ok v (S0 h1 n1)→V7 h args Old eS→(∀ i,eS i→i<N∧ ¬(n≤i∧i<n1))→n1≤N→
   cE P O f args h N fun v2 h2 n2=>Ren h n n1 N Old eS v h1 v2 h2):bG P f spec:=by
 intro args m hm Γ W w h n lim rd wr args' v s' ha hS hr hfree;have jk:=j9 lim m h n rd wr v s' hr;obtain⟨NC,V8⟩:=oT m h n v s'.heap s'.next jk;obtain⟨N0,hN0⟩:=hS.fin;have hdom:∀ i b s,Γ.blk i=some (b,s)→i<max N0 s'.next∧ ¬(n≤i∧i<s'.next):=by
  intro i b s e;refine⟨?_,fun ⟨h1,h2⟩=>?_⟩
  ·rcases Nat.lt_or_ge i N0 with q |q
   ·omega
   ·rw[hN0 i q] at e;simp at e
  ·rw[hfree i h1 h2] at e;simp at e
 have DR:∀ i B,h.get i=some B→∃ b s,Γ.blk i=some (b,s):=fun i B e=>let ⟨b,s,q,_⟩:=hS.live i B e;⟨b,s,q⟩
 have hold:V7 h args (fun v=>∃ u,aD Γ v u) (fun i=>∃ b s,Γ.blk i=some (b,s)):=by
  refine⟨?_,?_,?_,?_,?_,?_,DR,?_,?_,?_,hS.rows⟩
  ·intro i c ro o u e e';obtain⟨b,s,_,⟨cs,el,fz,_,_,h3⟩,_⟩:=hS.live i _ e;obtain⟨u',_,q⟩:=h3 o u e';exact⟨u',q⟩
  ·intro i es clk e hi he;obtain⟨_,_,_,⟨_,aZ,_,h2⟩,_⟩:=hS.live i _ hi;exact h2.old he
  ·intro u hu;obtain⟨i,hi⟩:=List.mem_iff_getElem?.1 hu;obtain⟨u',_,q⟩:=ha.get hi;exact⟨u',q⟩
  ·rintro l u ⟨_,q⟩ hu;cases q with
   |agg _ l' q=>
    obtain⟨i,hi⟩:=List.mem_iff_getElem?.1 hu;obtain⟨u',_,q⟩:=q.get hi;exact⟨u',q⟩
  ·rintro l u ⟨_,q⟩ hu;cases q with
   |tuple _ l' q=>
    obtain⟨i,hi⟩:=List.mem_iff_getElem?.1 hu;obtain⟨u',_,q⟩:=q.get hi;exact⟨u',q⟩
  ·rintro t u ⟨_,q⟩;cases q with
   |iface _ _ u' q=>exact⟨u',q⟩
  ·rintro a ⟨_,q⟩;cases q with
   |ptr _ a' q=>obtain⟨s,e,_⟩:=q.at_;exact⟨_,_,e⟩
  ·rintro a k c hc ⟨_,q⟩;cases q with
   |slice _ a' _ _ _ q=>obtain⟨s,e⟩:=q.block hc;exact⟨_,_,e⟩
  ·rintro r ⟨_,q⟩;cases q with
   |map _ r' q=>exact⟨_,_,q⟩
 obtain⟨k,v2,h2,n2,e2,σ,adi,aps,hv,hblk⟩:=H args m hm h n (max N0 s'.next) _ _ v s'.heap s'.next jk hold (fun i ⟨b,s,e⟩=>hdom i b s e) (Nat.le_max_right _ _);have Fu:Wf (S0 h (max N0 s'.next)):=by
  intro i hi;cases hg:h.get i with
  |none=>exact hg
  |some B=>
   obtain⟨b,s,e⟩:=DR i B hg;have:=(hdom i b s e).1;have hi:max N0 s'.next≤i:=hi;omega
 have hF:Free Γ (S0 h (max N0 s'.next)).next (S0 h2 n2).next:=by
  intro i h1 _;have h1:max N0 s'.next≤i:=h1;exact hN0 i qJ
 have:=qX (sH hO qw k).1 (tU k) e2 (Nat.zero_le _) Fu hS (fun i b hb=>hb) ha hF none;have key:CallsIn Fence.wide 0 P f ⟨args'⟩ w fun e w'=>∃ aY v',e = .returned v'∧Γ.le aY∧bK aY W s'.heap w'∧(∀ i,¬(n≤i∧i<s'.next)→aY.blk i=Γ.blk i)∧aD aY v v':=by
  refine CallsIn.mono (show CallsIn Fence.wide 0 P f ⟨args'⟩ w _ from this) ?_;rintro en w' ⟨LU,v',H',rfl,hex,Kr⟩;have hrel:bK LU W h2 w':=hex.rel.sub hex.sub
  let aY:bL:=⟨fun i=>if n≤i∧i<s'.next then LU.blk (σ i) else Γ.blk i,LU.jo⟩
  have hle:Γ.le aY:=by
   refine⟨fun i x e=>?_,hex.le.jo⟩;obtain⟨b,s⟩:=x
   show (if n≤i∧i<s'.next then LU.blk (σ i) else Γ.blk i)=_
   rw[if_neg (hdom i b s e).2];exact e
  have hnew:∀ i,n≤i→i<s'.next→aY.blk i=LU.blk (σ i):=fun i h1 h2=>if_pos ⟨h1,h2⟩;have hout:∀ i,¬(n≤i∧i<s'.next)→aY.blk i=Γ.blk i:=fun i hi=>if_neg hi;have hI:∀ j j',Ij (fun i=>∃ b s,Γ.blk i=some (b,s)) n s'.next σ j j'→aY.blk j=LU.blk j':=by
   rintro j j' (⟨⟨b,s,e⟩,rfl⟩ | ⟨h1,h2,rfl⟩)
   ·rw[hout _ (hdom _ b s e).2,e,hex.le.blk _ _ e]
   ·exact hnew j h1 h2
  have hOl:∀ u,(∃ x,aD Γ u x)→∀ x,aD LU u x→aD aY u x:=fun u ⟨x0,q⟩ x q'=>(aD.down hex.le q q').mono hle;refine⟨aY,v',rfl,hle,⟨hrel.below,hrel.fz,?_,?_,?_,hrel.jo,?_,?_⟩,hout,hv.rel hI hOl rfl Kr⟩
  ·intro i B hi
   rcases hblk i B hi with ⟨g1,g2⟩ | ⟨B2,g1,g2⟩
   ·obtain⟨b0,s0,e0,r0,_⟩:=hS.live i B g1;obtain⟨b,s,e,r,hw⟩:=hrel.live i B g2;have:=hex.le.blk _ _ e0;rw[e] at this;obtain⟨rfl,rfl⟩:b=b0∧s=s0:=by simpa using this
    exact⟨b,s,hle.blk _ _ e0,(m_.down hex.le r0 r).mono hle,hw⟩
   ·obtain⟨b,s,e,r,hw⟩:=hrel.live _ B2 g1;refine⟨b,s,?_,g2.rel hI hOl rfl r,fun h=>hw (g2.cV.1 h)⟩;by_cases hin:n≤i∧i<s'.next
    ·rw[hnew i hin.1 hin.2];simpa [sg,hin] using e
    ·have hs:sg σ n s'.next i=i:=by simp[sg,hin]
     rw[hs] at e;have hg:h.get i≠none:=by
      rcases V8 i (by rw[hi];simp) with q |q
      ·exact q
      ·exact absurd q hin
     obtain⟨B0,hB0⟩:=Option.ne_none_iff_exists'.1 hg;obtain⟨b0,s0,e0⟩:=DR i B0 hB0;rw[hout i hin,e0,←hex.le.blk _ _ e0,e]
  ·intro i j B B' b sb b' sb' hij hi hj e1 e2 hB;have key:∀ (i:Nat) (B:aj) (b s:Nat),s'.heap.get i=some B→aY.blk i=some (b,s)→∃ B2,h2.get (sg σ n s'.next i)=some B2∧LU.blk (sg σ n s'.next i)=some (b,s)∧(B.cV→B2.cV):=by
    intro i B b s hi e
    rcases hblk i B hi with ⟨g1,g2⟩ | ⟨B2,g1,g2⟩
    ·obtain⟨b0,s0,e0⟩:=DR i B g1;have hin:=(hdom i b0 s0 e0).2;have hs:sg σ n s'.next i=i:=by simp[sg,hin]
     rw[hs];rw[hout i hin,e0] at e;obtain⟨rfl,rfl⟩:b0=b∧s0=s:=by simpa using e
     exact⟨B,g2,hex.le.blk _ _ e0,id⟩
    ·refine⟨B2,g1,?_,g2.cV.1⟩;by_cases hin:n≤i∧i<s'.next
     ·rw[hnew i hin.1 hin.2] at e;simpa [sg,hin] using e
     ·rw[hout i hin] at e;have hs:sg σ n s'.next i=i:=by simp[sg,hin]
      rw[hs];exact hex.le.blk _ _ e
   obtain⟨C,c1,c2,c3⟩:=key i B b sb hi e1;obtain⟨C',d1,d2,_⟩:=key j B' b' sb' hj e2;have hne:sg σ n s'.next i≠sg σ n s'.next j:=by
    intro heq;have hlt:∀ i B,s'.heap.get i=some B→ ¬(n≤i∧i<s'.next)→i<max N0 s'.next:=by
     intro i B hi hin;have hg:h.get i≠none:=by
      rcases V8 i (by rw[hi];simp) with q |q
      ·exact q
      ·exact absurd q hin
     obtain⟨B0,hB0⟩:=Option.ne_none_iff_exists'.1 hg;obtain⟨b0,s0,e0⟩:=DR i B0 hB0;exact(hdom i b0 s0 e0).1
    by_cases h1:n≤i∧i<s'.next
    ·by_cases h2:n≤j∧j<s'.next
     ·simp only[sg,h1,h2,and_self,if_true] at heq;exact hij (aps i j h1.1 h1.2 h2.1 h2.2 heq)
     ·simp only[sg,h1,h2,and_self,if_true,if_false] at heq;have:=adi i h1.1 h1.2;have:=hlt j B' hj h2;omega
    ·by_cases h2:n≤j∧j<s'.next
     ·simp only[sg,h1,h2,and_self,if_true,if_false] at heq;have:=adi j h2.1 h2.2;have:=hlt i B hi h1;omega
     ·simp only[sg,h1,h2,if_false] at heq;exact hij heq
   exact hrel.ng _ _ C C' b sb b' sb' hne c1 d1 c2 d2 (c3 hB)
  ·intro i b s e;by_cases hin:n≤i∧i<s'.next
   ·rw[hnew i hin.1 hin.2] at e;exact hrel.dom _ _ _ e
   ·rw[hout i hin] at e;exact hrel.dom _ _ _ (hex.le.blk _ _ e)
  ·refine⟨max N0 s'.next,fun i hi=>?_⟩;rw[hout i qJ];exact hN0 i qJ
  ·intro i c ro e
   rcases hblk i _ e with ⟨g1,_⟩ | ⟨B2,_,g2⟩
   ·exact hS.rows i c ro g1
   ·cases g2 with
    |cells l l' _ _=>exact⟨l,rfl⟩
 exact key
end Go.Am
