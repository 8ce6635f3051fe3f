/-
A part.
-/
import Derived.Test.YtofmbmclopgldaaGreatAmC
set_option linter.all false
namespace Go.Am
def Sub(a b:List Nat):Prop:=∀ x,x∈a→x∈b
theorem Sub.refl(a:List Nat):Sub a a:=fun _ h=>h
theorem Sub.trans{a b c:List Nat}(h:Sub a b)(k:Sub b c):Sub a c:=fun x hx=>k x (h x hx)
theorem gQ{n x:Nat}{l:List Nat}:x∈ins n l↔x=n∨x∈l:=by
 unfold ins;cases h:l.any (Nat.beq n) with
 |true=>
  simp only[cond_true];obtain⟨y,hy,hb⟩:=List.any_eq_true.1 h;have:=Nat.eq_of_beq_eq_true hb;subst this;constructor
  ·exact .inr
  ·rintro (rfl |h)
   ·exact hy
   ·exact h
 |false=>simp
structure sy(lim n:Nat)(rd wr:List Nat)(s':HS):Prop where
 next:n≤s'.next
 VX:Sub rd s'.rd
 LQ:Sub wr s'.wr
 uS:∀ x,x∈s'.rd→x∈rd∨x<lim
 uT:∀ x,x∈s'.wr→x∈wr∨x<lim
 wf:∀ id,s'.next≤id→s'.heap.get id=none
def Upd(lim n':Nat)(wr:List Nat)(h h' h2 h2':PT aj):Prop:=
 ∀ id,(h2'.get id=h'.get id∧(id∈wr∨(lim≤id∧id<n')))∨(h2'.get id=h2.get id∧h'.get id=h.get id)
def Agree(lim:Nat)(rd wr:List Nat)(h h2:PT aj):Prop:=
 ∀ id b,(id∈rd∨id∈wr∨lim≤id)→h.get id=some b→h2.get id=some b
def Loc(lim:Nat){α:Type}(F:HS→aO α):Prop:=
 ∀ h n rd wr a s',F ⟨h,n,rd,wr⟩ = .ok a s'→lim≤n→(∀ id,n≤id→h.get id=none)→
  sy lim n rd wr s'∧∀ h2,Agree lim s'.rd s'.wr h h2→∃ h2',F ⟨h2,n,rd,wr⟩ = .ok a ⟨h2',s'.next,s'.rd,s'.wr⟩∧Upd lim s'.next s'.wr h s'.heap h2 h2'
section
variable {lim:Nat} {α β:Type}
theorem eG(a:α):Loc lim (fun s=>aO.ok a s):=by
 intro h n rd wr a' s' e hl hw;simp only[aO.ok.injEq] at e;obtain⟨rfl,rfl⟩:=e;exact⟨⟨Nat.le_refl _,.refl _,.refl _,fun x hx => .inl hx,fun x hx => .inl hx,hw⟩,fun h2 _=>⟨h2,rfl,fun id => .inr ⟨rfl,rfl⟩⟩⟩
theorem fV(w:String):Loc lim (fun _=>(aO.fail w:aO α)):=by
 intro h n rd wr a' s' e;simp at e
theorem cQ{G:HS→aO α}{K:α→HS→aO β}(hG:Loc lim G)(hK:∀ a,Loc lim (K a)):Loc lim (fun s=>bP (G s) K):=by
 intro h n rd wr b s' e hl hw;simp only[bP] at e;split at e
 ·rename_i a s₁ hg;obtain⟨p,q⟩:=hG h n rd wr a s₁ hg hl hw;obtain⟨p',q'⟩:=hK a s₁.heap s₁.next s₁.rd s₁.wr b s' e (Nat.le_trans hl p.next) p.wf;refine⟨⟨Nat.le_trans p.next p'.next,p.VX.trans p'.VX,p.LQ.trans p'.LQ,fun x hx=>?_,fun x hx=>?_,p'.wf⟩,fun h2 tL=>?_⟩
  ·rcases p'.uS x hx with hx |hx
   ·exact p.uS x hx
   ·exact .inr hx
  ·rcases p'.uT x hx with hx |hx
   ·exact p.uT x hx
   ·exact .inr hx
  ·obtain⟨h3,e3,u3⟩:=q h2 (fun id b hid hb=>tL id b (hid.imp (p'.VX id) (Or.imp (p'.LQ id) fun q=>q)) hb);obtain⟨h4,e4,u4⟩:=q' h3 (fun id b hid hb=>by
    rcases u3 id with ⟨u,_⟩ | ⟨u,u'⟩
    ·rw[u];exact hb
    ·rw[u];exact tL id b hid (by rw[←u'];exact hb))
   refine⟨h4,?_,fun id=>?_⟩
   ·simp only[bP,e3,e4]
   ·rcases u4 id with ⟨u,hid⟩ | ⟨u,u'⟩
    ·exact .inl ⟨u,hid⟩
    ·rcases u3 id with ⟨v,hid⟩ | ⟨v,v'⟩
     ·refine .inl ⟨by rw[u,v,u'],?_⟩
      rcases hid with hid | ⟨h5,h6⟩
      ·exact .inl (p'.LQ id hid)
      ·exact .inr ⟨h5,Nat.lt_of_lt_of_le h6 p'.next⟩
     ·exact .inr ⟨by rw[u,v],by rw[u',v']⟩
 ·simp at e
theorem eZ:∀ (m:AP α),Loc lim (m.run lim)
 | .pure a=>eG a
 | .fail w=>by intro h n rd wr a' s' e;simp[AP.run] at e
 | .get id k=>by
  intro h n rd wr a s' e hl hw;simp only[AP.run] at e;split at e
  ·simp at e
  ·rename_i b hb;have main:∀ rd',Sub rd rd'→(∀ x,x∈rd'→x∈rd∨x<lim)→(id∈rd'∨lim≤id)→(k b).run lim ⟨h,n,rd',wr⟩ = .ok a s'→
     (∀ h2:PT aj,h2.get id=some b→((AP.get id k).run lim ⟨h2,n,rd,wr⟩=(k b).run lim ⟨h2,n,rd',wr⟩))→
     sy lim n rd wr s'∧∀ h2,Agree lim s'.rd s'.wr h h2→∃ h2',(AP.get id k).run lim ⟨h2,n,rd,wr⟩ = .ok a ⟨h2',s'.next,s'.rd,s'.wr⟩∧Upd lim s'.next s'.wr h s'.heap h2 h2':=by
    intro rd' hsub iI hin he hrun;obtain⟨p,q⟩:=eZ (k b) h n rd' wr a s' he hl hw;refine⟨⟨p.next,hsub.trans p.VX,p.LQ,fun x hx=>?_,p.uT,p.wf⟩,fun h2 tL=>?_⟩
    ·rcases p.uS x hx with hx |hx
     ·exact iI x hx
     ·exact .inr hx
    ·obtain⟨h3,e3,u3⟩:=q h2 tL;refine⟨h3,?_,u3⟩;rw[hrun h2 (tL id b (by
      rcases hin with hin |hin
      ·exact .inl (p.VX id hin)
      ·exact .inr (.inr hin)) hb)]
     exact e3
   cases mS:Nat.blt id lim with
   |true=>
    rw[mS] at e;have hlt:id<lim:=Nat.blt_eq.mp mS;refine main (ins id rd) (fun x hx=>gQ.2 (.inr hx)) (fun x hx=>?_) (.inl (gQ.2 (.inl rfl))) e (fun h2 Gl=>by simp only[AP.run,Gl,mS,cond_true])
    rcases gQ.1 hx with rfl |hx
    ·exact .inr hlt
    ·exact .inl hx
   |false=>
    rw[mS] at e;have hlt: ¬ id<lim:=fun hlt=>by rw[Nat.blt_eq.mpr hlt] at mS;exact Bool.noConfusion mS
    exact main rd (.refl _) (fun x hx => .inl hx) (.inr qJ) e (fun h2 Gl=>by simp only[AP.run,Gl,mS,cond_false])
 | .new b k=>by
  intro h n rd wr a s' e hl hw;simp only[AP.run] at e;obtain⟨p,q⟩:=eZ (k n) (h.set n (some b)) (n+1) rd wr a s' e qJ (fun id hid=>by rw[PT.cB _ _ qJ];exact hw id qJ);have hn:n+1≤s'.next:=p.next;refine⟨⟨by omega,p.VX,p.LQ,p.uS,p.uT,p.wf⟩,fun h2 tL=>?_⟩;obtain⟨h3,e3,u3⟩:=q (h2.set n (some b)) (fun id c hid hc=>by
   rw[PT.bC] at hc ⊢;by_cases hin:id=n
   ·rw[if_pos hin] at hc ⊢;exact hc
   ·rw[if_neg hin] at hc ⊢;exact tL id c hid hc)
  refine⟨h3,e3,fun id=>?_⟩
  rcases u3 id with ⟨u,hid⟩ | ⟨u,u'⟩
  ·exact .inl ⟨u,hid⟩
  ·rw[PT.bC] at u u';by_cases hin:id=n
   ·rw[if_pos hin] at u u';exact .inl ⟨by rw[u,u'],.inr ⟨by omega,by omega⟩⟩
   ·rw[if_neg hin] at u u';exact .inr ⟨u,u'⟩
 | .set id B k=>by
  intro h n rd wr a s' e hl hw;simp only[AP.run] at e;split at e
  ·simp at e
  ·rename_i b hb;have X0:id<n:=by
    rcases Nat.lt_or_ge id n with hh |hh
    ·exact hh
    ·rw[hw id hh] at hb;simp at hb
   have main:∀ wr',Sub wr wr'→(∀ x,x∈wr'→x∈wr∨x<lim)→(id∈wr'∨lim≤id)→k.run lim ⟨h.set id (some B),n,rd,wr'⟩ = .ok a s'→
     (∀ (h2:PT aj) c,h2.get id=some c→((AP.set id B k).run lim ⟨h2,n,rd,wr⟩=k.run lim ⟨h2.set id (some B),n,rd,wr'⟩))→
     sy lim n rd wr s'∧∀ h2,Agree lim s'.rd s'.wr h h2→∃ h2',(AP.set id B k).run lim ⟨h2,n,rd,wr⟩ = .ok a ⟨h2',s'.next,s'.rd,s'.wr⟩∧Upd lim s'.next s'.wr h s'.heap h2 h2':=by
    intro wr' hsub iI hin he hrun;obtain⟨p,q⟩:=eZ k (h.set id (some B)) n rd wr' a s' he hl (fun x hx=>by rw[PT.cB _ _ qJ];exact hw x hx);have My:id∈s'.wr∨lim≤id:=hin.imp (p.LQ id) _root_.id;refine⟨⟨p.next,p.VX,hsub.trans p.LQ,p.uS,fun x hx=>?_,p.wf⟩,fun h2 tL=>?_⟩
    ·rcases p.uT x hx with hx |hx
     ·exact iI x hx
     ·exact .inr hx
    ·have Gl:=tL id b (.inr My) hb;obtain⟨h3,e3,u3⟩:=q (h2.set id (some B)) (fun x c hx hc=>by
      rw[PT.bC] at hc ⊢;by_cases Fp:x=id
      ·rw[if_pos Fp] at hc ⊢;exact hc
      ·rw[if_neg Fp] at hc ⊢;exact tL x c hx hc)
     refine⟨h3,by rw[hrun h2 b Gl];exact e3,fun x=>?_⟩
     rcases u3 x with ⟨u,hx⟩ | ⟨u,u'⟩
     ·exact .inl ⟨u,hx⟩
     ·rw[PT.bC] at u u';by_cases Fp:x=id
      ·rw[if_pos Fp] at u u';refine .inl ⟨by rw[u,u'],?_⟩;rw[Fp]
       rcases My with h1 |h1
       ·exact .inl h1
       ·exact .inr ⟨h1,Nat.lt_of_lt_of_le X0 p.next⟩
      ·rw[if_neg Fp] at u u';exact .inr ⟨u,u'⟩
   cases mS:Nat.blt id lim with
   |true=>
    rw[mS] at e;have hlt:id<lim:=Nat.blt_eq.mp mS;refine main (ins id wr) (fun x hx=>gQ.2 (.inr hx)) (fun x hx=>?_) (.inl (gQ.2 (.inl rfl))) e (fun h2 c Gl=>by simp only[AP.run,Gl,mS,cond_true])
    rcases gQ.1 hx with rfl |hx
    ·exact .inr hlt
    ·exact .inl hx
   |false=>
    rw[mS] at e;have hlt: ¬ id<lim:=fun hlt=>by rw[Nat.blt_eq.mpr hlt] at mS;exact Bool.noConfusion mS
    exact main wr (.refl _) (fun x hx => .inl hx) (.inr qJ) e (fun h2 c Gl=>by simp only[AP.run,Gl,mS,cond_false])
 | .kill id k=>by
  intro h n rd wr a s' e hl hw;simp only[AP.run] at e;split at e
  ·simp at e
  ·rename_i b hb;have X0:id<n:=by
    rcases Nat.lt_or_ge id n with hh |hh
    ·exact hh
    ·rw[hw id hh] at hb;simp at hb
   have main:∀ wr',Sub wr wr'→(∀ x,x∈wr'→x∈wr∨x<lim)→(id∈wr'∨lim≤id)→k.run lim ⟨h.set id none,n,rd,wr'⟩ = .ok a s'→
     (∀ (h2:PT aj) c,h2.get id=some c→((AP.kill id k).run lim ⟨h2,n,rd,wr⟩=k.run lim ⟨h2.set id none,n,rd,wr'⟩))→
     sy lim n rd wr s'∧∀ h2,Agree lim s'.rd s'.wr h h2→∃ h2',(AP.kill id k).run lim ⟨h2,n,rd,wr⟩ = .ok a ⟨h2',s'.next,s'.rd,s'.wr⟩∧Upd lim s'.next s'.wr h s'.heap h2 h2':=by
    intro wr' hsub iI hin he hrun;obtain⟨p,q⟩:=eZ k (h.set id none) n rd wr' a s' he hl (fun x hx=>by rw[PT.cB _ _ qJ];exact hw x hx);have My:id∈s'.wr∨lim≤id:=hin.imp (p.LQ id) _root_.id;refine⟨⟨p.next,p.VX,hsub.trans p.LQ,p.uS,fun x hx=>?_,p.wf⟩,fun h2 tL=>?_⟩
    ·rcases p.uT x hx with hx |hx
     ·exact iI x hx
     ·exact .inr hx
    ·have Gl:=tL id b (.inr My) hb;obtain⟨h3,e3,u3⟩:=q (h2.set id none) (fun x c hx hc=>by
      rw[PT.bC] at hc ⊢;by_cases Fp:x=id
      ·rw[if_pos Fp] at hc ⊢;exact hc
      ·rw[if_neg Fp] at hc ⊢;exact tL x c hx hc)
     refine⟨h3,by rw[hrun h2 b Gl];exact e3,fun x=>?_⟩
     rcases u3 x with ⟨u,hx⟩ | ⟨u,u'⟩
     ·exact .inl ⟨u,hx⟩
     ·rw[PT.bC] at u u';by_cases Fp:x=id
      ·rw[if_pos Fp] at u u';refine .inl ⟨by rw[u,u'],?_⟩;rw[Fp]
       rcases My with h1 |h1
       ·exact .inl h1
       ·exact .inr ⟨h1,Nat.lt_of_lt_of_le X0 p.next⟩
      ·rw[if_neg Fp] at u u';exact .inr ⟨u,u'⟩
   cases mS:Nat.blt id lim with
   |true=>
    rw[mS] at e;have hlt:id<lim:=Nat.blt_eq.mp mS;refine main (ins id wr) (fun x hx=>gQ.2 (.inr hx)) (fun x hx=>?_) (.inl (gQ.2 (.inl rfl))) e (fun h2 c Gl=>by simp only[AP.run,Gl,mS,cond_true])
    rcases gQ.1 hx with rfl |hx
    ·exact .inr hlt
    ·exact .inl hx
   |false=>
    rw[mS] at e;have hlt: ¬ id<lim:=fun hlt=>by rw[Nat.blt_eq.mpr hlt] at mS;exact Bool.noConfusion mS
    exact main wr (.refl _) (fun x hx => .inl hx) (.inr qJ) e (fun h2 c Gl=>by simp only[AP.run,Gl,mS,cond_false])
end
def jz(ev:iL):Prop:=∀ ro lim c m,Loc lim (ev ro lim c m)
section
variable {P:Program} {O:Over} {ev:iL} {lim:Nat}
theorem oN{α:Type}{b:Bool}{F G:HS→aO α}(hF:Loc lim F)(hG:Loc lim G):Loc lim (fun s=>cond b (F s) (G s)):=by
 cases b
 ·exact hG
 ·exact hF
theorem lC(m:Tm):∀ rs,Loc lim (cD P lim m rs)
 | []=>eG _
 | .tmp t::r=>cQ (K:=fun l s => .ok (m.get t::l) s) (lC m r) fun l=>eG _
 | .cell a t::r=>cQ (eZ _) fun v=>cQ (K:=fun l s => .ok (v::l) s) (lC m r) fun l=>eG _
theorem oO:∀ ds,Loc lim (fB lim ds)
 | []=>eG _
 |d::r=>cQ (eZ _) fun _=>oO r
theorem tS(rs:List ResultVar)(x:bp×Tm):Loc lim (iH P lim rs x):=by
 unfold iH;cases x.1 with
 |exit=>exact fV _
 |normal=>exact cQ (oO _) fun _=>cQ (K:=fun l s => .ok (oneOf l) s) (lC _ _) fun l=>eG _
 |ret=>exact cQ (oO _) fun _=>cQ (K:=fun l s => .ok (oneOf l) s) (lC _ _) fun l=>eG _
theorem Dr(fY:jz ev)(f:FuncId)(args:List Value):Loc lim (gV P ev lim f args):=by
 unfold gV;cases P.funcs[f]? with
 |none=>exact fV _
 |some fn=>
  dsimp only;cases fn.body with
  |none=>exact fV _
  |some c=>exact cQ (fY _ _ _ _) fun x=>tS _ _
theorem xh(fY:jz ev)(f:FuncId)(args:List Value):Loc lim (fT P O ev lim f args):=by
 unfold fT;cases O f args with
 |none=>exact Dr fY f args
 |some m=>exact eZ m
theorem J0(fY:jz ev)(l:Nat)(m:Tm)(as bd:Code):Loc lim (ga ev lim l m as bd):=by
 unfold ga;refine cQ (fY _ _ _ _) fun x=>?_;cases x.1 with
 |normal=>exact cQ (eZ _) fun _=>cQ (fY _ _ _ _) fun y=>eZ _
 | _=>exact fV _
theorem Ds(fY:jz ev)(x:aG):Loc lim (fU P O ev lim x):=by
 unfold fU;cases x with
 |value v=>exact eG _
 |skip=>exact eG _
 |enter f args=>exact xh fY f args
 |round l m as bd=>exact J0 fY l m as bd
theorem Sw(fY:jz ev)(ρ:Operand→Value)(o:Oper):Loc lim (jr P O ev lim ρ o):=by
 unfold jr;exact oN (cQ (eZ _) fun x=>Ds fY x) (fV _)
theorem Sx(m:Tm)(d:Option Nat)(v:Value):Loc lim (jt m d v):=by
 unfold jt;cases m.put d v with
 |none=>exact fV _
 |some m=>exact eG _
theorem tT(fY:jz ev)(ops:List Oper)(o:Oper)(m:Tm):Loc lim (lW P O ev lim ops o m):=by
 unfold lW;exact cQ (oN (Sw fY _ _) (eG _)) fun v=>Sx _ _ _
theorem Bp(fY:jz ev)(ops:List Oper):∀ r m,Loc lim (jl P O ev lim ops r m)
 | [],m=>eG _
 |o::r,m=>cQ (tT fY ops o m) fun m=>Bp fY ops r m
theorem gR:∀ (l acc:List Nat) (x:Nat),x∈below lim l acc↔(x∈l∧x<lim)∨x∈acc
 | [],acc,x=>by simp[below]
 |y::l,acc,x=>by
  rw[below,gR l];cases h:Nat.blt y lim with
  |true=>
   have hlt:y<lim:=Nat.blt_eq.mp h;simp only[cond_true,gQ,List.mem_cons];constructor
   ·rintro (⟨h1,h2⟩ |rfl |h1)
    ·exact .inl ⟨.inr h1,h2⟩
    ·exact .inl ⟨.inl rfl,hlt⟩
    ·exact .inr h1
   ·rintro (⟨rfl |h1,h2⟩ |h1)
    ·exact .inr (.inl rfl)
    ·exact .inl ⟨h1,h2⟩
    ·exact .inr (.inr h1)
  |false=>
   have hlt: ¬ y<lim:=fun hlt=>by rw[Nat.blt_eq.mpr hlt] at h;exact Bool.noConfusion h
   simp only[cond_false,List.mem_cons];constructor
   ·rintro (⟨h1,h2⟩ |h1)
    ·exact .inl ⟨.inr h1,h2⟩
    ·exact .inr h1
   ·rintro (⟨rfl |h1,h2⟩ |h1)
    ·exact absurd h2 hlt
    ·exact .inl ⟨h1,h2⟩
    ·exact .inr h1
theorem qV:∀ (fs:List bO) (s:HS),(aT lim fs s).heap=s.heap∧(aT lim fs s).next=s.next∧
  (∀ x,x∈(aT lim fs s).rd↔(∃ f∈fs,x∈f.rd∧x<lim)∨x∈s.rd)∧(∀ x,x∈(aT lim fs s).wr↔(∃ f∈fs,x∈f.wr∧x<lim)∨x∈s.wr)
 | [],s=>by simp[aT]
 |f::fs,s=>by
  obtain⟨h1,h2,h3,h4⟩:=qV fs { s with rd:=below lim f.rd s.rd,wr:=below lim f.wr s.wr };refine⟨h1,h2,fun x=>?_,fun x=>?_⟩
  ·rw[aT,h3,gR];constructor
   ·rintro (⟨g,hg,hx⟩ |hx |hx)
    ·exact .inl ⟨g,List.mem_cons_of_mem _ hg,hx⟩
    ·exact .inl ⟨f,List.mem_cons_self,hx⟩
    ·exact .inr hx
   ·rintro (⟨g,hg,hx⟩ |hx)
    ·rcases List.mem_cons.1 hg with rfl |hg
     ·exact .inr (.inl hx)
     ·exact .inl ⟨g,hg,hx⟩
    ·exact .inr (.inr hx)
  ·rw[aT,h4,gR];constructor
   ·rintro (⟨g,hg,hx⟩ |hx |hx)
    ·exact .inl ⟨g,List.mem_cons_of_mem _ hg,hx⟩
    ·exact .inl ⟨f,List.mem_cons_self,hx⟩
    ·exact .inr hx
   ·rintro (⟨g,hg,hx⟩ |hx)
    ·rcases List.mem_cons.1 hg with rfl |hg
     ·exact .inr (.inl hx)
     ·exact .inl ⟨g,hg,hx⟩
    ·exact .inr (.inr hx)
theorem Dt(fY:jz ev)(ops:List Oper):∀ (r:List Oper) (m:Tm) (h:PT aj) (n:Nat) (x:Tm×List bO) (s':HS),g8 P O ev ops r m h n = .ok x s'→(∀ id,n≤id→h.get id=none)→
  n≤s'.next∧(∀ id,s'.next≤id→s'.heap.get id=none)∧s'.rd=[]∧s'.wr=[]∧(∀ f∈x.2,n≤f.lo∧f.hi≤s'.next∧(∀ y,y∈f.rd→y<f.lo)∧(∀ y,y∈f.wr→y<f.lo)∧f.lo≤f.hi)∧
  ∀ h2,(∀ id b,((∃ f∈x.2,id∈f.rd∨id∈f.wr)∨n≤id)→h.get id=some b→h2.get id=some b)→
   ∃ h2',g8 P O ev ops r m h2 n = .ok x ⟨h2',s'.next,[],[]⟩∧
    ∀ id,(h2'.get id=s'.heap.get id∧((∃ f∈x.2,id∈f.wr)∨(n≤id∧id<s'.next)))∨(h2'.get id=h2.get id∧s'.heap.get id=h.get id)
 | [],m,h,n,x,s',e,hw=>by
  simp only[g8,aO.ok.injEq] at e;obtain⟨rfl,rfl⟩:=e;exact⟨Nat.le_refl _,hw,rfl,rfl,fun f hf=>by simp at hf,fun h2 _=>⟨h2,rfl,fun id => .inr ⟨rfl,rfl⟩⟩⟩
 |o::r,m,h,n,x,s',e,hw=>by
  simp only[g8] at e;cases h1:lW P O ev n ops o m ⟨h,n,[],[]⟩ with
  |fail w=>simp[bP,h1] at e
  |ok m₁ s₁=>
   simp only[bP,h1] at e;cases h2:g8 P O ev ops r m₁ s₁.heap s₁.next with
   |fail w=>simp[h2] at e
   |ok x₁ s₂=>
    simp only[h2,aO.ok.injEq] at e;obtain⟨rfl,rfl⟩:=e;obtain⟨p,q⟩:=tT (P:=P) (lim:=n) fY ops o m h n [] [] m₁ s₁ h1 (Nat.le_refl _) hw;obtain⟨g1,g2,g3,g4,g5,g6⟩:=Dt fY ops r m₁ s₁.heap s₁.next x₁ s₂ h2 p.wf;have plo:∀ y,y∈s₁.rd→y<n:=fun y hy=>(p.uS y hy).resolve_left (by simp);have ao':∀ y,y∈s₁.wr→y<n:=fun y hy=>(p.uT y hy).resolve_left (by simp);have pn:=p.next;refine⟨Nat.le_trans pn g1,g2,g3,g4,?_,fun k hk=>?_⟩
    ·intro f hf
     rcases List.mem_cons.1 hf with rfl |hf
     ·exact⟨Nat.le_refl _,g1,plo,ao',pn⟩
     ·obtain⟨k1,k2,k3,k4,k5⟩:=g5 f hf;exact⟨Nat.le_trans pn k1,k2,k3,k4,k5⟩
    ·obtain⟨k1,e1,u1⟩:=q k (fun id b hid hb=>hk id b (by
      rcases hid with hid |hid |hid
      ·exact .inl ⟨_,List.mem_cons_self,.inl hid⟩
      ·exact .inl ⟨_,List.mem_cons_self,.inr hid⟩
      ·exact .inr hid) hb)
     obtain⟨k2,e2,u2⟩:=g6 k1 (fun id b hid hb=>by
      rcases u1 id with ⟨u,_⟩ | ⟨u,u'⟩
      ·rw[u];exact hb
      ·rw[u];refine hk id b ?_ (by rw[←u'];exact hb)
       rcases hid with ⟨f,hf,hid⟩ |hid
       ·exact .inl ⟨f,List.mem_cons_of_mem _ hf,hid⟩
       ·exact .inr (Nat.le_trans pn hid))
     refine⟨k2,?_,fun id=>?_⟩
     ·simp only[g8,bP,e1,e2,g3,g4]
     ·rcases u2 id with ⟨u,hid⟩ | ⟨u,u'⟩
      ·refine .inl ⟨u,?_⟩
       rcases hid with ⟨f,hf,hid⟩ | ⟨h3,h4⟩
       ·exact .inl ⟨f,List.mem_cons_of_mem _ hf,hid⟩
       ·exact .inr ⟨Nat.le_trans pn h3,h4⟩
      ·rcases u1 id with ⟨v,hid⟩ | ⟨v,v'⟩
       ·refine .inl ⟨by rw[u,v,u'],?_⟩
        rcases hid with hid | ⟨h3,h4⟩
        ·exact .inl ⟨_,List.mem_cons_self,hid⟩
        ·exact .inr ⟨h3,Nat.lt_of_lt_of_le h4 g1⟩
       ·exact .inr ⟨by rw[u,v],by rw[u',v']⟩
theorem Du(fY:jz ev)(ops:List Oper)(m:Tm):Loc lim (fJ P O ev lim ops m):=by
 intro h n rd wr a s' e hl hw;simp only[fJ] at e;cases hd:g9 ops (aR (aU [] ops) ops.length) with
 |false=>simp[hd] at e
 |true=>
  simp only[hd,cond_true] at e;cases hf:g8 P O ev ops ops m h n with
  |fail w=>simp[bP,hf] at e
  |ok x s₁=>
   simp only[bP,hf] at e;cases hk:dc x.2 (aR (aU [] ops) ops.length) with
   |false=>simp[hk] at e
   |true=>
    simp only[hk,cond_true] at e;obtain⟨g1,g2,g3,g4,g5,g6⟩:=Dt fY ops ops m h n x s₁ hf hw;have key:∀ h₀:PT aj,∃ sF:HS,(cond (Nat.beq lim 0) (⟨h₀,s₁.next,rd,wr⟩:HS) (aT lim x.2 ⟨h₀,s₁.next,rd,wr⟩))=sF∧sF.heap=h₀∧sF.next=s₁.next∧
      (∀ y,y∈sF.rd↔(∃ f∈x.2,y∈f.rd∧y<lim)∨y∈rd)∧(∀ y,y∈sF.wr↔(∃ f∈x.2,y∈f.wr∧y<lim)∨y∈wr):=by
     intro h₀;refine⟨_,rfl,?_⟩;cases hz:Nat.beq lim 0 with
     |true=>
      have:=Nat.eq_of_beq_eq_true hz;subst this;simp
     |false=>
      obtain⟨m1,m2,m3,m4⟩:=qV (lim:=lim) x.2 ⟨h₀,s₁.next,rd,wr⟩;exact⟨m1,m2,m3,m4⟩
    have same:∀ h₀ h₁:PT aj,(aT lim x.2 ⟨h₀,s₁.next,rd,wr⟩).rd=(aT lim x.2 ⟨h₁,s₁.next,rd,wr⟩).rd∧(aT lim x.2 ⟨h₀,s₁.next,rd,wr⟩).wr=(aT lim x.2 ⟨h₁,s₁.next,rd,wr⟩).wr:=by
     intro h₀ h₁;have gen:∀ (fs:List bO) (r q:List Nat),(aT lim fs ⟨h₀,s₁.next,r,q⟩).rd=(aT lim fs ⟨h₁,s₁.next,r,q⟩).rd∧(aT lim fs ⟨h₀,s₁.next,r,q⟩).wr=(aT lim fs ⟨h₁,s₁.next,r,q⟩).wr:=by
      intro fs
      induction fs with
      |nil=>exact fun r q=>⟨rfl,rfl⟩
      |cons f fs ih=>exact fun r q=>ih _ _
     exact gen _ _ _
    obtain⟨sF,hs,k1,k2,k3,k4⟩:=key s₁.heap;rw[hs] at e;simp only[aO.ok.injEq] at e;obtain⟨rfl,rfl⟩:=e;refine⟨⟨by rw[k2];exact g1,fun y hy=>(k3 y).2 (.inr hy),fun y hy=>(k4 y).2 (.inr hy),fun y hy=>?_,fun y hy=>?_,by rw[k1,k2];exact g2⟩,fun h2 tL=>?_⟩
    ·rcases(k3 y).1 hy with ⟨f,_,_,hlt⟩ |hy
     ·exact .inr hlt
     ·exact .inl hy
    ·rcases(k4 y).1 hy with ⟨f,_,_,hlt⟩ |hy
     ·exact .inr hlt
     ·exact .inl hy
    ·obtain⟨h3,e3,u3⟩:=g6 h2 (fun id b hid hb=>tL id b (by
      rcases hid with ⟨f,hf,hid |hid⟩ |hid
      ·by_cases hlt:id<lim
       ·exact .inl ((k3 id).2 (.inl ⟨f,hf,hid,hlt⟩))
       ·exact .inr (.inr qJ)
      ·by_cases hlt:id<lim
       ·exact .inr (.inl ((k4 id).2 (.inl ⟨f,hf,hid,hlt⟩)))
       ·exact .inr (.inr qJ)
      ·exact .inr (.inr qJ)) hb)
     obtain⟨sG,tM,j1,j2,j3,j4⟩:=key h3;have hsame:sG=⟨h3,sF.next,sF.rd,sF.wr⟩:=by
      have q1:sG.rd=sF.rd:=by
       rw[←hs,←tM];cases Nat.beq lim 0
       ·exact(same h3 s₁.heap).1
       ·rfl
      have q2:sG.wr=sF.wr:=by
       rw[←hs,←tM];cases Nat.beq lim 0
       ·exact(same h3 s₁.heap).2
       ·rfl
      cases sG;simp only at j1 j2 q1 q2;subst j1 j2 q1 q2;rw[k2]
     refine⟨h3,?_,fun id=>?_⟩
     ·simp only[fJ,hd,cond_true,bP,e3,hk];rw[tM,hsame]
     ·rw[k1,k2]
      rcases u3 id with ⟨u,hid⟩ |hid
      ·refine .inl ⟨u,?_⟩
       rcases hid with ⟨f,hf,hid⟩ | ⟨h5,h6⟩
       ·by_cases hlt:id<lim
        ·exact .inl ((k4 id).2 (.inl ⟨f,hf,hid,hlt⟩))
        ·obtain⟨q1,q2,q3,q4,q5⟩:=g5 f hf;have:=q4 id hid;exact .inr ⟨by omega,by omega⟩
       ·exact .inr ⟨by omega,h6⟩
      ·exact .inr hid
theorem J1(fY:jz ev)(ro:Option Nat)(g:Operand)(ps:List Tmp)(assign body:Code)(m:Tm):Loc lim (fL P O ev ro lim g ps assign body m):=by
 unfold fL;exact oN (cQ (eZ _) fun ld=>cQ (eZ _) fun fa=>cQ (xh fY _ _) fun _=>cQ (K:=fun x s => .ok (x,{ m with fF:=ld.2 }) s) (eZ _) fun x=>eG _) (fV _)
theorem Mz(fY:jz ev):jz (br P O ev):=by
 intro ro lim c m;unfold br;cases c with
 |skip=>exact eG _
 |region id ops draw=>exact cQ (K:=fun m s => .ok (bp.normal,m) s) (oN (Du fY _ _) (Bp fY _ _ _)) fun m=>eG _
 |seq a b=>
  refine cQ (fY _ _ _ _) fun x=>?_;cases x.1 with
  |normal=>exact fY _ _ _ _
  | _=>exact eG _
 |cond c a b=>
  refine oN ?_ (fV _);split
  ·exact fY _ _ _ _
  ·exact fY _ _ _ _
  ·exact fV _
 |block id c=>
  refine cQ (fY _ _ _ _) fun x=>?_;cases x.1 with
  |exit=>exact eG _
  | _=>exact eG _
 |loop c=>
  refine cQ (fY _ _ _ _) fun x=>?_;cases x.1 with
  |normal=>exact fY _ _ _ _
  | _=>exact eG _
 |rangeFunc g ps assign body=>exact J1 fY _ _ _ _ _ _
 |exit id=>exact eG _
 |scope c=>exact fY _ _ _ _
 |label l=>exact eG _
 |goto l=>exact fV _
 |ret=>exact eG _
 |refuse w=>exact fV _
theorem tU:∀ n,jz (mQ P O n)
 |0=>fun ro lim c m=>fV _
 |n+1=>Mz (tU n)
end
end Go.Am
