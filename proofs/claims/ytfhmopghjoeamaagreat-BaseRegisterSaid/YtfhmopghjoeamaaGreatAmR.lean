/-
  The abstract machine: what a run does depends on the blocks that it notes alone.
-/
import Derived.Test.YtfhmopghjoeamaaGreatAmB
import Derived.Test.YtfhmopghjoeamaaGreatAmC
set_option linter.unusedSimpArgs false
set_option linter.unusedVariables false
namespace Go.Am
def Sub (a b:List Nat):Prop:=∀ x,x∈a→x∈b
theorem Sub.refl (a:List Nat):Sub a a:=fun _ h=>h
theorem Sub.trans {a b c:List Nat} (h:Sub a b) (k:Sub b c):Sub a c:=fun x hx=>k x (h x hx)
theorem ef {n x:Nat} {l:List Nat}:x∈ins n l↔x=n∨x∈l:=by
 unfold ins
 cases h:l.any (Nat.beq n) with
 |true=>
  simp only[cond_true]
  obtain⟨y,hy,hb⟩:=List.any_eq_true.1 h
  have:=Nat.eq_of_beq_eq_true hb
  subst this
  constructor
  ·exact .inr
  ·rintro (rfl |h)
   ·exact hy
   ·exact h
 |false=>simp
structure mF (lim n:Nat) (rd wr:List Nat) (s':HS):Prop where
 next:n≤s'.next
 G3:Sub rd s'.rd
 AU:Sub wr s'.wr
 oz:∀ x,x∈s'.rd→x∈rd∨x<lim
 oA:∀ x,x∈s'.wr→x∈wr∨x<lim
 wf:∀ id,s'.next≤id→s'.heap.get id=none
def MD (lim n':Nat) (wr:List Nat) (h h' h2 h2':PT aj):Prop:=
 ∀ id,(h2'.get id=h'.get id∧(id∈wr∨(lim≤id∧id<n')))∨(h2'.get id=h2.get id∧h'.get id=h.get id)
def Agree (lim:Nat) (rd wr:List Nat) (h h2:PT aj):Prop:=
 ∀ id b,(id∈rd∨id∈wr∨lim≤id)→h.get id=some b→h2.get id=some b
def Loc (lim:Nat) {α:Type} (F:HS→aW α):Prop:=
 ∀ h n rd wr a s',F ⟨h,n,rd,wr⟩ = .ok a s'→lim≤n→(∀ id,n≤id→h.get id=none)→
  mF lim n rd wr s'∧∀ h2,Agree lim s'.rd s'.wr h h2→∃ h2',F ⟨h2,n,rd,wr⟩ = .ok a ⟨h2',s'.next,s'.rd,s'.wr⟩∧MD lim s'.next s'.wr h s'.heap h2 h2'
section
variable {lim:Nat} {α β:Type}
theorem cD (a:α):Loc lim (fun s=>aW.ok a s):=by
 intro h n rd wr a' s' e hl hw
 simp only[aW.ok.injEq] at e
 obtain⟨rfl,rfl⟩:=e
 exact⟨⟨Nat.le_refl _,.refl _,.refl _,fun x hx => .inl hx,fun x hx => .inl hx,hw⟩,fun h2 _=>⟨h2,rfl,fun id => .inr ⟨rfl,rfl⟩⟩⟩
theorem dc (w:String):Loc lim (fun _=>(aW.fail w:aW α)):=by
 intro h n rd wr a' s' e
 simp at e
theorem bL {G:HS→aW α} {K:α→HS→aW β} (hG:Loc lim G) (hK:∀ a,Loc lim (K a)):Loc lim (fun s=>bF (G s) K):=by
 intro h n rd wr b s' e hl hw
 simp only[bF] at e
 split at e
 ·rename_i a s₁ hg
  obtain⟨p,q⟩:=hG h n rd wr a s₁ hg hl hw
  obtain⟨p',q'⟩:=hK a s₁.heap s₁.next s₁.rd s₁.wr b s' e (Nat.le_trans hl p.next) p.wf
  refine⟨⟨Nat.le_trans p.next p'.next,p.G3.trans p'.G3,p.AU.trans p'.AU,fun x hx=>?_,fun x hx=>?_,p'.wf⟩,fun h2 nj=>?_⟩
  ·rcases p'.oz x hx with hx |hx
   ·exact p.oz x hx
   ·exact .inr hx
  ·rcases p'.oA x hx with hx |hx
   ·exact p.oA x hx
   ·exact .inr hx
  ·obtain⟨h3,e3,u3⟩:=q h2 (fun id b hid hb=>nj id b (hid.imp (p'.G3 id) (Or.imp (p'.AU id) fun q=>q)) hb)
   obtain⟨h4,e4,u4⟩:=q' h3 (fun id b hid hb=>by
    rcases u3 id with ⟨u,_⟩ | ⟨u,u'⟩
    ·rw[u];exact hb
    ·rw[u];exact nj id b hid (by rw[←u'];exact hb))
   refine⟨h4,?_,fun id=>?_⟩
   ·simp only[bF,e3,e4]
   ·rcases u4 id with ⟨u,hid⟩ | ⟨u,u'⟩
    ·exact .inl ⟨u,hid⟩
    ·rcases u3 id with ⟨v,hid⟩ | ⟨v,v'⟩
     ·refine .inl ⟨by rw[u,v,u'],?_⟩
      rcases hid with hid | ⟨h5,h6⟩
      ·exact .inl (p'.AU id hid)
      ·exact .inr ⟨h5,Nat.lt_of_lt_of_le h6 p'.next⟩
     ·exact .inr ⟨by rw[u,v],by rw[u',v']⟩
 ·simp at e
theorem cL:∀ (m:AP α),Loc lim (m.run lim)
 | .pure a=>cD a
 | .fail w=>by intro h n rd wr a' s' e;simp[AP.run] at e
 | .get id k=>by
  intro h n rd wr a s' e hl hw
  simp only[AP.run] at e
  split at e
  ·simp at e
  ·rename_i b hb
   have main:∀ rd',Sub rd rd'→(∀ x,x∈rd'→x∈rd∨x<lim)→(id∈rd'∨lim≤id)→(k b).run lim ⟨h,n,rd',wr⟩ = .ok a s'→
     (∀ h2:PT aj,h2.get id=some b→((AP.get id k).run lim ⟨h2,n,rd,wr⟩=(k b).run lim ⟨h2,n,rd',wr⟩))→
     mF lim n rd wr s'∧∀ h2,Agree lim s'.rd s'.wr h h2→∃ h2',(AP.get id k).run lim ⟨h2,n,rd,wr⟩ = .ok a ⟨h2',s'.next,s'.rd,s'.wr⟩∧MD lim s'.next s'.wr h s'.heap h2 h2':=by
    intro rd' hsub ep hin he hrun
    obtain⟨p,q⟩:=cL (k b) h n rd' wr a s' he hl hw
    refine⟨⟨p.next,hsub.trans p.G3,p.AU,fun x hx=>?_,p.oA,p.wf⟩,fun h2 nj=>?_⟩
    ·rcases p.oz x hx with hx |hx
     ·exact ep x hx
     ·exact .inr hx
    ·obtain⟨h3,e3,u3⟩:=q h2 nj
     refine⟨h3,?_,u3⟩
     rw[hrun h2 (nj id b (by
      rcases hin with hin |hin
      ·exact .inl (p.G3 id hin)
      ·exact .inr (.inr hin)) hb)]
     exact e3
   cases kI:Nat.blt id lim with
   |true=>
    rw[kI] at e
    have hlt:id<lim:=Nat.blt_eq.mp kI
    refine main (ins id rd) (fun x hx=>ef.2 (.inr hx)) (fun x hx=>?_) (.inl (ef.2 (.inl rfl))) e (fun h2 xm=>by simp only[AP.run,xm,kI,cond_true])
    rcases ef.1 hx with rfl |hx
    ·exact .inr hlt
    ·exact .inl hx
   |false=>
    rw[kI] at e
    have hlt: ¬ id<lim:=fun hlt=>by rw[Nat.blt_eq.mpr hlt] at kI;exact Bool.noConfusion kI
    exact main rd (.refl _) (fun x hx => .inl hx) (.inr (by omega)) e (fun h2 xm=>by simp only[AP.run,xm,kI,cond_false])
 | .new b k=>by
  intro h n rd wr a s' e hl hw
  simp only[AP.run] at e
  obtain⟨p,q⟩:=cL (k n) (h.set n (some b)) (n+1) rd wr a s' e (by omega) (fun id hid=>by rw[PT.bJ _ _ (by omega)];exact hw id (by omega))
  have hn:n+1≤s'.next:=p.next
  refine⟨⟨by omega,p.G3,p.AU,p.oz,p.oA,p.wf⟩,fun h2 nj=>?_⟩
  obtain⟨h3,e3,u3⟩:=q (h2.set n (some b)) (fun id c hid hc=>by
   rw[PT.aU] at hc ⊢
   by_cases hin:id=n
   ·rw[if_pos hin] at hc ⊢;exact hc
   ·rw[if_neg hin] at hc ⊢;exact nj id c hid hc)
  refine⟨h3,e3,fun id=>?_⟩
  rcases u3 id with ⟨u,hid⟩ | ⟨u,u'⟩
  ·exact .inl ⟨u,hid⟩
  ·rw[PT.aU] at u u'
   by_cases hin:id=n
   ·rw[if_pos hin] at u u'
    exact .inl ⟨by rw[u,u'],.inr ⟨by omega,by omega⟩⟩
   ·rw[if_neg hin] at u u'
    exact .inr ⟨u,u'⟩
 | .set id B k=>by
  intro h n rd wr a s' e hl hw
  simp only[AP.run] at e
  split at e
  ·simp at e
  ·rename_i b hb
   have IA:id<n:=by
    rcases Nat.lt_or_ge id n with hh |hh
    ·exact hh
    ·rw[hw id hh] at hb;simp at hb
   have main:∀ wr',Sub wr wr'→(∀ x,x∈wr'→x∈wr∨x<lim)→(id∈wr'∨lim≤id)→k.run lim ⟨h.set id (some B),n,rd,wr'⟩ = .ok a s'→
     (∀ (h2:PT aj) c,h2.get id=some c→((AP.set id B k).run lim ⟨h2,n,rd,wr⟩=k.run lim ⟨h2.set id (some B),n,rd,wr'⟩))→
     mF lim n rd wr s'∧∀ h2,Agree lim s'.rd s'.wr h h2→∃ h2',(AP.set id B k).run lim ⟨h2,n,rd,wr⟩ = .ok a ⟨h2',s'.next,s'.rd,s'.wr⟩∧MD lim s'.next s'.wr h s'.heap h2 h2':=by
    intro wr' hsub ep hin he hrun
    obtain⟨p,q⟩:=cL k (h.set id (some B)) n rd wr' a s' he hl (fun x hx=>by rw[PT.bJ _ _ (by omega)];exact hw x hx)
    have Bz:id∈s'.wr∨lim≤id:=hin.imp (p.AU id) _root_.id
    refine⟨⟨p.next,p.G3,hsub.trans p.AU,p.oz,fun x hx=>?_,p.wf⟩,fun h2 nj=>?_⟩
    ·rcases p.oA x hx with hx |hx
     ·exact ep x hx
     ·exact .inr hx
    ·have xm:=nj id b (.inr Bz) hb
     obtain⟨h3,e3,u3⟩:=q (h2.set id (some B)) (fun x c hx hc=>by
      rw[PT.aU] at hc ⊢
      by_cases wo:x=id
      ·rw[if_pos wo] at hc ⊢;exact hc
      ·rw[if_neg wo] at hc ⊢;exact nj x c hx hc)
     refine⟨h3,by rw[hrun h2 b xm];exact e3,fun x=>?_⟩
     rcases u3 x with ⟨u,hx⟩ | ⟨u,u'⟩
     ·exact .inl ⟨u,hx⟩
     ·rw[PT.aU] at u u'
      by_cases wo:x=id
      ·rw[if_pos wo] at u u'
       refine .inl ⟨by rw[u,u'],?_⟩
       rw[wo]
       rcases Bz with h1 |h1
       ·exact .inl h1
       ·exact .inr ⟨h1,Nat.lt_of_lt_of_le IA p.next⟩
      ·rw[if_neg wo] at u u'
       exact .inr ⟨u,u'⟩
   cases kI:Nat.blt id lim with
   |true=>
    rw[kI] at e
    have hlt:id<lim:=Nat.blt_eq.mp kI
    refine main (ins id wr) (fun x hx=>ef.2 (.inr hx)) (fun x hx=>?_) (.inl (ef.2 (.inl rfl))) e (fun h2 c xm=>by simp only[AP.run,xm,kI,cond_true])
    rcases ef.1 hx with rfl |hx
    ·exact .inr hlt
    ·exact .inl hx
   |false=>
    rw[kI] at e
    have hlt: ¬ id<lim:=fun hlt=>by rw[Nat.blt_eq.mpr hlt] at kI;exact Bool.noConfusion kI
    exact main wr (.refl _) (fun x hx => .inl hx) (.inr (by omega)) e (fun h2 c xm=>by simp only[AP.run,xm,kI,cond_false])
 | .kill id k=>by
  intro h n rd wr a s' e hl hw
  simp only[AP.run] at e
  split at e
  ·simp at e
  ·rename_i b hb
   have IA:id<n:=by
    rcases Nat.lt_or_ge id n with hh |hh
    ·exact hh
    ·rw[hw id hh] at hb;simp at hb
   have main:∀ wr',Sub wr wr'→(∀ x,x∈wr'→x∈wr∨x<lim)→(id∈wr'∨lim≤id)→k.run lim ⟨h.set id none,n,rd,wr'⟩ = .ok a s'→
     (∀ (h2:PT aj) c,h2.get id=some c→((AP.kill id k).run lim ⟨h2,n,rd,wr⟩=k.run lim ⟨h2.set id none,n,rd,wr'⟩))→
     mF lim n rd wr s'∧∀ h2,Agree lim s'.rd s'.wr h h2→∃ h2',(AP.kill id k).run lim ⟨h2,n,rd,wr⟩ = .ok a ⟨h2',s'.next,s'.rd,s'.wr⟩∧MD lim s'.next s'.wr h s'.heap h2 h2':=by
    intro wr' hsub ep hin he hrun
    obtain⟨p,q⟩:=cL k (h.set id none) n rd wr' a s' he hl (fun x hx=>by rw[PT.bJ _ _ (by omega)];exact hw x hx)
    have Bz:id∈s'.wr∨lim≤id:=hin.imp (p.AU id) _root_.id
    refine⟨⟨p.next,p.G3,hsub.trans p.AU,p.oz,fun x hx=>?_,p.wf⟩,fun h2 nj=>?_⟩
    ·rcases p.oA x hx with hx |hx
     ·exact ep x hx
     ·exact .inr hx
    ·have xm:=nj id b (.inr Bz) hb
     obtain⟨h3,e3,u3⟩:=q (h2.set id none) (fun x c hx hc=>by
      rw[PT.aU] at hc ⊢
      by_cases wo:x=id
      ·rw[if_pos wo] at hc ⊢;exact hc
      ·rw[if_neg wo] at hc ⊢;exact nj x c hx hc)
     refine⟨h3,by rw[hrun h2 b xm];exact e3,fun x=>?_⟩
     rcases u3 x with ⟨u,hx⟩ | ⟨u,u'⟩
     ·exact .inl ⟨u,hx⟩
     ·rw[PT.aU] at u u'
      by_cases wo:x=id
      ·rw[if_pos wo] at u u'
       refine .inl ⟨by rw[u,u'],?_⟩
       rw[wo]
       rcases Bz with h1 |h1
       ·exact .inl h1
       ·exact .inr ⟨h1,Nat.lt_of_lt_of_le IA p.next⟩
      ·rw[if_neg wo] at u u'
       exact .inr ⟨u,u'⟩
   cases kI:Nat.blt id lim with
   |true=>
    rw[kI] at e
    have hlt:id<lim:=Nat.blt_eq.mp kI
    refine main (ins id wr) (fun x hx=>ef.2 (.inr hx)) (fun x hx=>?_) (.inl (ef.2 (.inl rfl))) e (fun h2 c xm=>by simp only[AP.run,xm,kI,cond_true])
    rcases ef.1 hx with rfl |hx
    ·exact .inr hlt
    ·exact .inl hx
   |false=>
    rw[kI] at e
    have hlt: ¬ id<lim:=fun hlt=>by rw[Nat.blt_eq.mpr hlt] at kI;exact Bool.noConfusion kI
    exact main wr (.refl _) (fun x hx => .inl hx) (.inr (by omega)) e (fun h2 c xm=>by simp only[AP.run,xm,kI,cond_false])
end
def fm (ev:jd):Prop:=∀ ro lim c m,Loc lim (ev ro lim c m)
section
variable {P:Program} {O:Over} {ev:jd} {lim:Nat}
theorem jT {α:Type} {b:Bool} {F G:HS→aW α} (hF:Loc lim F) (hG:Loc lim G):Loc lim (fun s=>cond b (F s) (G s)):=by
 cases b
 ·exact hG
 ·exact hF
theorem ig (m:Tm):∀ rs,Loc lim (bY P lim m rs)
 | []=>cD _
 | .tmp t::r=>bL (K:=fun l s => .ok (m.get t::l) s) (ig m r) fun l=>cD _
 | .cell a t::r=>bL (cL _) fun v=>bL (K:=fun l s => .ok (v::l) s) (ig m r) fun l=>cD _
theorem jU:∀ ds,Loc lim (dX lim ds)
 | []=>cD _
 |d::r=>bL (cL _) fun _=>jU r
theorem nG (rs:List ResultVar) (x:bw×Tm):Loc lim (iz P lim rs x):=by
 unfold iz
 cases x.1 with
 |exit=>exact dc _
 |normal=>exact bL (jU _) fun _=>bL (K:=fun l s => .ok (oneOf l) s) (ig _ _) fun l=>cD _
 |ret=>exact bL (jU _) fun _=>bL (K:=fun l s => .ok (oneOf l) s) (ig _ _) fun l=>cD _
theorem uM (dm:fm ev) (f:FuncId) (args:List Value):Loc lim (fG P ev lim f args):=by
 unfold fG
 cases P.funcs[f]? with
 |none=>exact dc _
 |some fn=>
  dsimp only
  cases fn.body with
  |none=>exact dc _
  |some c=>exact bL (dm _ _ _ _) fun x=>nG _ _
theorem qa (dm:fm ev) (f:FuncId) (args:List Value):Loc lim (ew P O ev lim f args):=by
 unfold ew
 cases O f args with
 |none=>exact uM dm f args
 |some m=>exact cL m
theorem zG (dm:fm ev) (l:Nat) (m:Tm) (as bd:Code):Loc lim (eD ev lim l m as bd):=by
 unfold eD
 refine bL (dm _ _ _ _) fun x=>?_
 cases x.1 with
 |normal=>exact bL (cL _) fun _=>bL (dm _ _ _ _) fun y=>cL _
 | _=>exact dc _
theorem uN (dm:fm ev) (x:aE):Loc lim (eS P O ev lim x):=by
 unfold eS
 cases x with
 |value v=>exact cD _
 |skip=>exact cD _
 |enter f args=>exact qa dm f args
 |round l m as bd=>exact zG dm l m as bd
theorem EL (dm:fm ev) (ρ:Operand→Value) (o:Oper):Loc lim (iJ P O ev lim ρ o):=by
 unfold iJ
 exact jT (bL (cL _) fun x=>uN dm x) (dc _)
theorem EM (m:Tm) (d:Option Nat) (v:Value):Loc lim (iK m d v):=by
 unfold iK
 cases m.put d v with
 |none=>exact dc _
 |some m=>exact cD _
theorem nH (dm:fm ev) (ops:List Oper) (o:Oper) (m:Tm):Loc lim (lV P O ev lim ops o m):=by
 unfold lV
 exact bL (jT (EL dm _ _) (cD _)) fun v=>EM _ _ _
theorem td (dm:fm ev) (ops:List Oper):∀ r m,Loc lim (gU P O ev lim ops r m)
 | [],m=>cD _
 |o::r,m=>bL (nH dm ops o m) fun m=>td dm ops r m
theorem iO:∀ (l acc:List Nat) (x:Nat),x∈below lim l acc↔(x∈l∧x<lim)∨x∈acc
 | [],acc,x=>by simp[below]
 |y::l,acc,x=>by
  rw[below,iO l]
  cases h:Nat.blt y lim with
  |true=>
   have hlt:y<lim:=Nat.blt_eq.mp h
   simp only[cond_true,ef,List.mem_cons]
   constructor
   ·rintro (⟨h1,h2⟩ |rfl |h1)
    ·exact .inl ⟨.inr h1,h2⟩
    ·exact .inl ⟨.inl rfl,hlt⟩
    ·exact .inr h1
   ·rintro (⟨rfl |h1,h2⟩ |h1)
    ·exact .inr (.inl rfl)
    ·exact .inl ⟨h1,h2⟩
    ·exact .inr (.inr h1)
  |false=>
   have hlt: ¬ y<lim:=fun hlt=>by rw[Nat.blt_eq.mpr hlt] at h;exact Bool.noConfusion h
   simp only[cond_false,List.mem_cons]
   constructor
   ·rintro (⟨h1,h2⟩ |h1)
    ·exact .inl ⟨.inr h1,h2⟩
    ·exact .inr h1
   ·rintro (⟨rfl |h1,h2⟩ |h1)
    ·exact absurd h2 hlt
    ·exact .inl ⟨h1,h2⟩
    ·exact .inr h1
theorem lF:∀ (fs:List bI) (s:HS),(aL lim fs s).heap=s.heap∧(aL lim fs s).next=s.next∧
  (∀ x,x∈(aL lim fs s).rd↔(∃ f∈fs,x∈f.rd∧x<lim)∨x∈s.rd)∧(∀ x,x∈(aL lim fs s).wr↔(∃ f∈fs,x∈f.wr∧x<lim)∨x∈s.wr)
 | [],s=>by simp[aL]
 |f::fs,s=>by
  obtain⟨h1,h2,h3,h4⟩:=lF fs { s with rd:=below lim f.rd s.rd,wr:=below lim f.wr s.wr }
  refine⟨h1,h2,fun x=>?_,fun x=>?_⟩
  ·rw[aL,h3,iO]
   constructor
   ·rintro (⟨g,hg,hx⟩ |hx |hx)
    ·exact .inl ⟨g,List.mem_cons_of_mem _ hg,hx⟩
    ·exact .inl ⟨f,List.mem_cons_self,hx⟩
    ·exact .inr hx
   ·rintro (⟨g,hg,hx⟩ |hx)
    ·rcases List.mem_cons.1 hg with rfl |hg
     ·exact .inr (.inl hx)
     ·exact .inl ⟨g,hg,hx⟩
    ·exact .inr (.inr hx)
  ·rw[aL,h4,iO]
   constructor
   ·rintro (⟨g,hg,hx⟩ |hx |hx)
    ·exact .inl ⟨g,List.mem_cons_of_mem _ hg,hx⟩
    ·exact .inl ⟨f,List.mem_cons_self,hx⟩
    ·exact .inr hx
   ·rintro (⟨g,hg,hx⟩ |hx)
    ·rcases List.mem_cons.1 hg with rfl |hg
     ·exact .inr (.inl hx)
     ·exact .inl ⟨g,hg,hx⟩
    ·exact .inr (.inr hx)
theorem uO (dm:fm ev) (ops:List Oper):∀ (r:List Oper) (m:Tm) (h:PT aj) (n:Nat) (x:Tm×List bI) (s':HS),gV P O ev ops r m h n = .ok x s'→(∀ id,n≤id→h.get id=none)→
  n≤s'.next∧(∀ id,s'.next≤id→s'.heap.get id=none)∧s'.rd=[]∧s'.wr=[]∧(∀ f∈x.2,n≤f.lo∧f.hi≤s'.next∧(∀ y,y∈f.rd→y<f.lo)∧(∀ y,y∈f.wr→y<f.lo)∧f.lo≤f.hi)∧
  ∀ h2,(∀ id b,((∃ f∈x.2,id∈f.rd∨id∈f.wr)∨n≤id)→h.get id=some b→h2.get id=some b)→
   ∃ h2',gV P O ev ops r m h2 n = .ok x ⟨h2',s'.next,[],[]⟩∧
    ∀ id,(h2'.get id=s'.heap.get id∧((∃ f∈x.2,id∈f.wr)∨(n≤id∧id<s'.next)))∨(h2'.get id=h2.get id∧s'.heap.get id=h.get id)
 | [],m,h,n,x,s',e,hw=>by
  simp only[gV,aW.ok.injEq] at e
  obtain⟨rfl,rfl⟩:=e
  exact⟨Nat.le_refl _,hw,rfl,rfl,fun f hf=>by simp at hf,fun h2 _=>⟨h2,rfl,fun id => .inr ⟨rfl,rfl⟩⟩⟩
 |o::r,m,h,n,x,s',e,hw=>by
  simp only[gV] at e
  cases h1:lV P O ev n ops o m ⟨h,n,[],[]⟩ with
  |fail w=>simp[bF,h1] at e
  |ok m₁ s₁=>
   simp only[bF,h1] at e
   cases h2:gV P O ev ops r m₁ s₁.heap s₁.next with
   |fail w=>simp[h2] at e
   |ok x₁ s₂=>
    simp only[h2,aW.ok.injEq] at e
    obtain⟨rfl,rfl⟩:=e
    obtain⟨p,q⟩:=nH (P:=P) (lim:=n) dm ops o m h n [] [] m₁ s₁ h1 (Nat.le_refl _) hw
    obtain⟨g1,g2,g3,g4,g5,g6⟩:=uO dm ops r m₁ s₁.heap s₁.next x₁ s₂ h2 p.wf
    have plo:∀ y,y∈s₁.rd→y<n:=fun y hy=>(p.oz y hy).resolve_left (by simp)
    have TS:∀ y,y∈s₁.wr→y<n:=fun y hy=>(p.oA y hy).resolve_left (by simp)
    have pn:=p.next
    refine⟨Nat.le_trans pn g1,g2,g3,g4,?_,fun k hk=>?_⟩
    ·intro f hf
     rcases List.mem_cons.1 hf with rfl |hf
     ·exact⟨Nat.le_refl _,g1,plo,TS,pn⟩
     ·obtain⟨k1,k2,k3,k4,k5⟩:=g5 f hf
      exact⟨Nat.le_trans pn k1,k2,k3,k4,k5⟩
    ·obtain⟨k1,e1,u1⟩:=q k (fun id b hid hb=>hk id b (by
      rcases hid with hid |hid |hid
      ·exact .inl ⟨_,List.mem_cons_self,.inl hid⟩
      ·exact .inl ⟨_,List.mem_cons_self,.inr hid⟩
      ·exact .inr hid) hb)
     obtain⟨k2,e2,u2⟩:=g6 k1 (fun id b hid hb=>by
      rcases u1 id with ⟨u,_⟩ | ⟨u,u'⟩
      ·rw[u];exact hb
      ·rw[u]
       refine hk id b ?_ (by rw[←u'];exact hb)
       rcases hid with ⟨f,hf,hid⟩ |hid
       ·exact .inl ⟨f,List.mem_cons_of_mem _ hf,hid⟩
       ·exact .inr (Nat.le_trans pn hid))
     refine⟨k2,?_,fun id=>?_⟩
     ·simp only[gV,bF,e1,e2,g3,g4]
     ·rcases u2 id with ⟨u,hid⟩ | ⟨u,u'⟩
      ·refine .inl ⟨u,?_⟩
       rcases hid with ⟨f,hf,hid⟩ | ⟨h3,h4⟩
       ·exact .inl ⟨f,List.mem_cons_of_mem _ hf,hid⟩
       ·exact .inr ⟨Nat.le_trans pn h3,h4⟩
      ·rcases u1 id with ⟨v,hid⟩ | ⟨v,v'⟩
       ·refine .inl ⟨by rw[u,v,u'],?_⟩
        rcases hid with hid | ⟨h3,h4⟩
        ·exact .inl ⟨_,List.mem_cons_self,hid⟩
        ·exact .inr ⟨h3,Nat.lt_of_lt_of_le h4 g1⟩
       ·exact .inr ⟨by rw[u,v],by rw[u',v']⟩
theorem uP (dm:fm ev) (ops:List Oper) (m:Tm):Loc lim (eE P O ev lim ops m):=by
 intro h n rd wr a s' e hl hw
 simp only[eE] at e
 cases hd:gK ops (aP (aN [] ops) ops.length) with
 |false=>simp[hd] at e
 |true=>
  simp only[hd,cond_true] at e
  cases hf:gV P O ev ops ops m h n with
  |fail w=>simp[bF,hf] at e
  |ok x s₁=>
   simp only[bF,hf] at e
   cases hk:cQ x.2 (aP (aN [] ops) ops.length) with
   |false=>simp[hk] at e
   |true=>
    simp only[hk,cond_true] at e
    obtain⟨g1,g2,g3,g4,g5,g6⟩:=uO dm ops ops m h n x s₁ hf hw
    have key:∀ h₀:PT aj,∃ sF:HS,(cond (Nat.beq lim 0) (⟨h₀,s₁.next,rd,wr⟩:HS) (aL lim x.2 ⟨h₀,s₁.next,rd,wr⟩))=sF∧sF.heap=h₀∧sF.next=s₁.next∧
      (∀ y,y∈sF.rd↔(∃ f∈x.2,y∈f.rd∧y<lim)∨y∈rd)∧(∀ y,y∈sF.wr↔(∃ f∈x.2,y∈f.wr∧y<lim)∨y∈wr):=by
     intro h₀
     refine⟨_,rfl,?_⟩
     cases hz:Nat.beq lim 0 with
     |true=>
      have:=Nat.eq_of_beq_eq_true hz
      subst this
      simp
     |false=>
      obtain⟨m1,m2,m3,m4⟩:=lF (lim:=lim) x.2 ⟨h₀,s₁.next,rd,wr⟩
      exact⟨m1,m2,m3,m4⟩
    have same:∀ h₀ h₁:PT aj,(aL lim x.2 ⟨h₀,s₁.next,rd,wr⟩).rd=(aL lim x.2 ⟨h₁,s₁.next,rd,wr⟩).rd∧(aL lim x.2 ⟨h₀,s₁.next,rd,wr⟩).wr=(aL lim x.2 ⟨h₁,s₁.next,rd,wr⟩).wr:=by
     intro h₀ h₁
     have gen:∀ (fs:List bI) (r q:List Nat),(aL lim fs ⟨h₀,s₁.next,r,q⟩).rd=(aL lim fs ⟨h₁,s₁.next,r,q⟩).rd∧(aL lim fs ⟨h₀,s₁.next,r,q⟩).wr=(aL lim fs ⟨h₁,s₁.next,r,q⟩).wr:=by
      intro fs
      induction fs with
      |nil=>exact fun r q=>⟨rfl,rfl⟩
      |cons f fs ih=>exact fun r q=>ih _ _
     exact gen _ _ _
    obtain⟨sF,hs,k1,k2,k3,k4⟩:=key s₁.heap
    rw[hs] at e
    simp only[aW.ok.injEq] at e
    obtain⟨rfl,rfl⟩:=e
    refine⟨⟨by rw[k2];exact g1,fun y hy=>(k3 y).2 (.inr hy),fun y hy=>(k4 y).2 (.inr hy),fun y hy=>?_,fun y hy=>?_,by rw[k1,k2];exact g2⟩,fun h2 nj=>?_⟩
    ·rcases(k3 y).1 hy with ⟨f,_,_,hlt⟩ |hy
     ·exact .inr hlt
     ·exact .inl hy
    ·rcases(k4 y).1 hy with ⟨f,_,_,hlt⟩ |hy
     ·exact .inr hlt
     ·exact .inl hy
    ·obtain⟨h3,e3,u3⟩:=g6 h2 (fun id b hid hb=>nj id b (by
      rcases hid with ⟨f,hf,hid |hid⟩ |hid
      ·by_cases hlt:id<lim
       ·exact .inl ((k3 id).2 (.inl ⟨f,hf,hid,hlt⟩))
       ·exact .inr (.inr (by omega))
      ·by_cases hlt:id<lim
       ·exact .inr (.inl ((k4 id).2 (.inl ⟨f,hf,hid,hlt⟩)))
       ·exact .inr (.inr (by omega))
      ·exact .inr (.inr (by omega))) hb)
     obtain⟨sG,Iu,j1,j2,j3,j4⟩:=key h3
     have hsame:sG=⟨h3,sF.next,sF.rd,sF.wr⟩:=by
      have q1:sG.rd=sF.rd:=by
       rw[←hs,←Iu]
       cases Nat.beq lim 0
       ·exact(same h3 s₁.heap).1
       ·rfl
      have q2:sG.wr=sF.wr:=by
       rw[←hs,←Iu]
       cases Nat.beq lim 0
       ·exact(same h3 s₁.heap).2
       ·rfl
      cases sG
      simp only at j1 j2 q1 q2
      subst j1 j2 q1 q2
      rw[k2]
     refine⟨h3,?_,fun id=>?_⟩
     ·simp only[eE,hd,cond_true,bF,e3,hk]
      rw[Iu,hsame]
     ·rw[k1,k2]
      rcases u3 id with ⟨u,hid⟩ |hid
      ·refine .inl ⟨u,?_⟩
       rcases hid with ⟨f,hf,hid⟩ | ⟨h5,h6⟩
       ·by_cases hlt:id<lim
        ·exact .inl ((k4 id).2 (.inl ⟨f,hf,hid,hlt⟩))
        ·obtain⟨q1,q2,q3,q4,q5⟩:=g5 f hf
         have:=q4 id hid
         exact .inr ⟨by omega,by omega⟩
       ·exact .inr ⟨by omega,h6⟩
      ·exact .inr hid
theorem zH (dm:fm ev) (ro:Option Nat) (g:Operand) (ps:List Tmp) (assign body:Code) (m:Tm):Loc lim (eF P O ev ro lim g ps assign body m):=by
 unfold eF
 exact jT (bL (cL _) fun ld=>bL (cL _) fun fa=>bL (qa dm _ _) fun _=>bL (K:=fun x s => .ok (x,{ m with fO:=ld.2 }) s) (cL _) fun x=>cD _) (dc _)
theorem BA (dm:fm ev):fm (bh P O ev):=by
 intro ro lim c m
 unfold bh
 cases c with
 |skip=>exact cD _
 |region id ops draw=>exact bL (K:=fun m s => .ok (bw.normal,m) s) (jT (uP dm _ _) (td dm _ _ _)) fun m=>cD _
 |seq a b=>
  refine bL (dm _ _ _ _) fun x=>?_
  cases x.1 with
  |normal=>exact dm _ _ _ _
  | _=>exact cD _
 |cond c a b=>
  refine jT ?_ (dc _)
  split
  ·exact dm _ _ _ _
  ·exact dm _ _ _ _
  ·exact dc _
 |block id c=>
  refine bL (dm _ _ _ _) fun x=>?_
  cases x.1 with
  |exit=>exact cD _
  | _=>exact cD _
 |loop c=>
  refine bL (dm _ _ _ _) fun x=>?_
  cases x.1 with
  |normal=>exact dm _ _ _ _
  | _=>exact cD _
 |rangeFunc g ps assign body=>exact zH dm _ _ _ _ _ _
 |exit id=>exact cD _
 |scope c=>exact dm _ _ _ _
 |label l=>exact cD _
 |goto l=>exact dc _
 |ret=>exact cD _
 |refuse w=>exact dc _
theorem nI:∀ n,fm (jL P O n)
 |0=>fun ro lim c m=>dc _
 |n+1=>BA (nI n)
end
end Go.Am
