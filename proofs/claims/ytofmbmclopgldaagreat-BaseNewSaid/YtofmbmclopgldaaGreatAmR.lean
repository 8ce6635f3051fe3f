/-
  The abstract machine: what a run does depends on the blocks that it notes alone.
-/
import Derived.Test.YtofmbmclopgldaaGreatAmB
import Derived.Test.YtofmbmclopgldaaGreatAmC
set_option linter.unusedSimpArgs false
set_option linter.unusedVariables false
namespace Go.Am
def Sub (a b:List Nat):Prop:=∀ x,x∈a→x∈b
theorem Sub.refl (a:List Nat):Sub a a:=fun _ h=>h
theorem Sub.trans {a b c:List Nat} (h:Sub a b) (k:Sub b c):Sub a c:=fun x hx=>k x (h x hx)
theorem fH {n x:Nat} {l:List Nat}:x∈ins n l↔x=n∨x∈l:=by
 unfold ins
 cases h:l.any (Nat.beq n) with
 |true=>
  simp only[cond_true]
  obtain⟨y,hy,hb⟩:=List.any_eq_true.1 h
  have:=Nat.eq_of_beq_eq_true hb
  subst this
  constructor
  ·exact .inr
  ·rintro (rfl |h)
   ·exact hy
   ·exact h
 |false=>simp
structure oE (lim n:Nat) (rd wr:List Nat) (s':HS):Prop where
 next:n≤s'.next
 LJ:Sub rd s'.rd
 Ee:Sub wr s'.wr
 qw:∀ x,x∈s'.rd→x∈rd∨x<lim
 qx:∀ x,x∈s'.wr→x∈wr∨x<lim
 wf:∀ id,s'.next≤id→s'.heap.get id=none
def Sj (lim n':Nat) (wr:List Nat) (h h' h2 h2':PT ak):Prop:=
 ∀ id,(h2'.get id=h'.get id∧(id∈wr∨(lim≤id∧id<n')))∨(h2'.get id=h2.get id∧h'.get id=h.get id)
def Agree (lim:Nat) (rd wr:List Nat) (h h2:PT ak):Prop:=
 ∀ id b,(id∈rd∨id∈wr∨lim≤id)→h.get id=some b→h2.get id=some b
def Loc (lim:Nat) {α:Type} (F:HS→aH α):Prop:=
 ∀ h n rd wr a s',F ⟨h,n,rd,wr⟩ = .ok a s'→lim≤n→(∀ id,n≤id→h.get id=none)→
  oE lim n rd wr s'∧∀ h2,Agree lim s'.rd s'.wr h h2→∃ h2',F ⟨h2,n,rd,wr⟩ = .ok a ⟨h2',s'.next,s'.rd,s'.wr⟩∧Sj lim s'.next s'.wr h s'.heap h2 h2'
section
variable {lim:Nat} {α β:Type}
theorem dg (a:α):Loc lim (fun s=>aH.ok a s):=by
 intro h n rd wr a' s' e hl hw
 simp only[aH.ok.injEq] at e
 obtain⟨rfl,rfl⟩:=e
 exact⟨⟨Nat.le_refl _,.refl _,.refl _,fun x hx => .inl hx,fun x hx => .inl hx,hw⟩,fun h2 _=>⟨h2,rfl,fun id => .inr ⟨rfl,rfl⟩⟩⟩
theorem dY (w:String):Loc lim (fun _=>(aH.fail w:aH α)):=by
 intro h n rd wr a' s' e
 simp at e
theorem b_ {G:HS→aH α} {K:α→HS→aH β} (hG:Loc lim G) (hK:∀ a,Loc lim (K a)):Loc lim (fun s=>bH (G s) K):=by
 intro h n rd wr b s' e hl hw
 simp only[bH] at e
 split at e
 ·rename_i a s₁ hg
  obtain⟨p,q⟩:=hG h n rd wr a s₁ hg hl hw
  obtain⟨p',q'⟩:=hK a s₁.heap s₁.next s₁.rd s₁.wr b s' e (Nat.le_trans hl p.next) p.wf
  refine⟨⟨Nat.le_trans p.next p'.next,p.LJ.trans p'.LJ,p.Ee.trans p'.Ee,fun x hx=>?_,fun x hx=>?_,p'.wf⟩,fun h2 o_=>?_⟩
  ·rcases p'.qw x hx with hx |hx
   ·exact p.qw x hx
   ·exact .inr hx
  ·rcases p'.qx x hx with hx |hx
   ·exact p.qx x hx
   ·exact .inr hx
  ·obtain⟨h3,e3,u3⟩:=q h2 (fun id b hid hb=>o_ id b (hid.imp (p'.LJ id) (Or.imp (p'.Ee id) fun q=>q)) hb)
   obtain⟨h4,e4,u4⟩:=q' h3 (fun id b hid hb=>by
    rcases u3 id with ⟨u,_⟩ | ⟨u,u'⟩
    ·rw[u];exact hb
    ·rw[u];exact o_ id b hid (by rw[←u'];exact hb))
   refine⟨h4,?_,fun id=>?_⟩
   ·simp only[bH,e3,e4]
   ·rcases u4 id with ⟨u,hid⟩ | ⟨u,u'⟩
    ·exact .inl ⟨u,hid⟩
    ·rcases u3 id with ⟨v,hid⟩ | ⟨v,v'⟩
     ·refine .inl ⟨by rw[u,v,u'],?_⟩
      rcases hid with hid | ⟨h5,h6⟩
      ·exact .inl (p'.Ee id hid)
      ·exact .inr ⟨h5,Nat.lt_of_lt_of_le h6 p'.next⟩
     ·exact .inr ⟨by rw[u,v],by rw[u',v']⟩
 ·simp at e
theorem dJ:∀ (m:AP α),Loc lim (m.run lim)
 | .pure a=>dg a
 | .fail w=>by intro h n rd wr a' s' e;simp[AP.run] at e
 | .get id k=>by
  intro h n rd wr a s' e hl hw
  simp only[AP.run] at e
  split at e
  ·simp at e
  ·rename_i b hb
   have main:∀ rd',Sub rd rd'→(∀ x,x∈rd'→x∈rd∨x<lim)→(id∈rd'∨lim≤id)→(k b).run lim ⟨h,n,rd',wr⟩ = .ok a s'→
     (∀ h2:PT ak,h2.get id=some b→((AP.get id k).run lim ⟨h2,n,rd,wr⟩=(k b).run lim ⟨h2,n,rd',wr⟩))→
     oE lim n rd wr s'∧∀ h2,Agree lim s'.rd s'.wr h h2→∃ h2',(AP.get id k).run lim ⟨h2,n,rd,wr⟩ = .ok a ⟨h2',s'.next,s'.rd,s'.wr⟩∧Sj lim s'.next s'.wr h s'.heap h2 h2':=by
    intro rd' hsub fP hin he hrun
    obtain⟨p,q⟩:=dJ (k b) h n rd' wr a s' he hl hw
    refine⟨⟨p.next,hsub.trans p.LJ,p.Ee,fun x hx=>?_,p.qx,p.wf⟩,fun h2 o_=>?_⟩
    ·rcases p.qw x hx with hx |hx
     ·exact fP x hx
     ·exact .inr hx
    ·obtain⟨h3,e3,u3⟩:=q h2 o_
     refine⟨h3,?_,u3⟩
     rw[hrun h2 (o_ id b (by
      rcases hin with hin |hin
      ·exact .inl (p.LJ id hin)
      ·exact .inr (.inr hin)) hb)]
     exact e3
   cases mM:Nat.blt id lim with
   |true=>
    rw[mM] at e
    have hlt:id<lim:=Nat.blt_eq.mp mM
    refine main (ins id rd) (fun x hx=>fH.2 (.inr hx)) (fun x hx=>?_) (.inl (fH.2 (.inl rfl))) e (fun h2 An=>by simp only[AP.run,An,mM,cond_true])
    rcases fH.1 hx with rfl |hx
    ·exact .inr hlt
    ·exact .inl hx
   |false=>
    rw[mM] at e
    have hlt: ¬ id<lim:=fun hlt=>by rw[Nat.blt_eq.mpr hlt] at mM;exact Bool.noConfusion mM
    exact main rd (.refl _) (fun x hx => .inl hx) (.inr (by omega)) e (fun h2 An=>by simp only[AP.run,An,mM,cond_false])
 | .new b k=>by
  intro h n rd wr a s' e hl hw
  simp only[AP.run] at e
  obtain⟨p,q⟩:=dJ (k n) (h.set n (some b)) (n+1) rd wr a s' e (by omega) (fun id hid=>by rw[PT.bO _ _ (by omega)];exact hw id (by omega))
  have hn:n+1≤s'.next:=p.next
  refine⟨⟨by omega,p.LJ,p.Ee,p.qw,p.qx,p.wf⟩,fun h2 o_=>?_⟩
  obtain⟨h3,e3,u3⟩:=q (h2.set n (some b)) (fun id c hid hc=>by
   rw[PT.aZ] at hc ⊢
   by_cases hin:id=n
   ·rw[if_pos hin] at hc ⊢;exact hc
   ·rw[if_neg hin] at hc ⊢;exact o_ id c hid hc)
  refine⟨h3,e3,fun id=>?_⟩
  rcases u3 id with ⟨u,hid⟩ | ⟨u,u'⟩
  ·exact .inl ⟨u,hid⟩
  ·rw[PT.aZ] at u u'
   by_cases hin:id=n
   ·rw[if_pos hin] at u u'
    exact .inl ⟨by rw[u,u'],.inr ⟨by omega,by omega⟩⟩
   ·rw[if_neg hin] at u u'
    exact .inr ⟨u,u'⟩
 | .set id B k=>by
  intro h n rd wr a s' e hl hw
  simp only[AP.run] at e
  split at e
  ·simp at e
  ·rename_i b hb
   have Nf:id<n:=by
    rcases Nat.lt_or_ge id n with hh |hh
    ·exact hh
    ·rw[hw id hh] at hb;simp at hb
   have main:∀ wr',Sub wr wr'→(∀ x,x∈wr'→x∈wr∨x<lim)→(id∈wr'∨lim≤id)→k.run lim ⟨h.set id (some B),n,rd,wr'⟩ = .ok a s'→
     (∀ (h2:PT ak) c,h2.get id=some c→((AP.set id B k).run lim ⟨h2,n,rd,wr⟩=k.run lim ⟨h2.set id (some B),n,rd,wr'⟩))→
     oE lim n rd wr s'∧∀ h2,Agree lim s'.rd s'.wr h h2→∃ h2',(AP.set id B k).run lim ⟨h2,n,rd,wr⟩ = .ok a ⟨h2',s'.next,s'.rd,s'.wr⟩∧Sj lim s'.next s'.wr h s'.heap h2 h2':=by
    intro wr' hsub fP hin he hrun
    obtain⟨p,q⟩:=dJ k (h.set id (some B)) n rd wr' a s' he hl (fun x hx=>by rw[PT.bO _ _ (by omega)];exact hw x hx)
    have ET:id∈s'.wr∨lim≤id:=hin.imp (p.Ee id) _root_.id
    refine⟨⟨p.next,p.LJ,hsub.trans p.Ee,p.qw,fun x hx=>?_,p.wf⟩,fun h2 o_=>?_⟩
    ·rcases p.qx x hx with hx |hx
     ·exact fP x hx
     ·exact .inr hx
    ·have An:=o_ id b (.inr ET) hb
     obtain⟨h3,e3,u3⟩:=q (h2.set id (some B)) (fun x c hx hc=>by
      rw[PT.aZ] at hc ⊢
      by_cases zF:x=id
      ·rw[if_pos zF] at hc ⊢;exact hc
      ·rw[if_neg zF] at hc ⊢;exact o_ x c hx hc)
     refine⟨h3,by rw[hrun h2 b An];exact e3,fun x=>?_⟩
     rcases u3 x with ⟨u,hx⟩ | ⟨u,u'⟩
     ·exact .inl ⟨u,hx⟩
     ·rw[PT.aZ] at u u'
      by_cases zF:x=id
      ·rw[if_pos zF] at u u'
       refine .inl ⟨by rw[u,u'],?_⟩
       rw[zF]
       rcases ET with h1 |h1
       ·exact .inl h1
       ·exact .inr ⟨h1,Nat.lt_of_lt_of_le Nf p.next⟩
      ·rw[if_neg zF] at u u'
       exact .inr ⟨u,u'⟩
   cases mM:Nat.blt id lim with
   |true=>
    rw[mM] at e
    have hlt:id<lim:=Nat.blt_eq.mp mM
    refine main (ins id wr) (fun x hx=>fH.2 (.inr hx)) (fun x hx=>?_) (.inl (fH.2 (.inl rfl))) e (fun h2 c An=>by simp only[AP.run,An,mM,cond_true])
    rcases fH.1 hx with rfl |hx
    ·exact .inr hlt
    ·exact .inl hx
   |false=>
    rw[mM] at e
    have hlt: ¬ id<lim:=fun hlt=>by rw[Nat.blt_eq.mpr hlt] at mM;exact Bool.noConfusion mM
    exact main wr (.refl _) (fun x hx => .inl hx) (.inr (by omega)) e (fun h2 c An=>by simp only[AP.run,An,mM,cond_false])
 | .kill id k=>by
  intro h n rd wr a s' e hl hw
  simp only[AP.run] at e
  split at e
  ·simp at e
  ·rename_i b hb
   have Nf:id<n:=by
    rcases Nat.lt_or_ge id n with hh |hh
    ·exact hh
    ·rw[hw id hh] at hb;simp at hb
   have main:∀ wr',Sub wr wr'→(∀ x,x∈wr'→x∈wr∨x<lim)→(id∈wr'∨lim≤id)→k.run lim ⟨h.set id none,n,rd,wr'⟩ = .ok a s'→
     (∀ (h2:PT ak) c,h2.get id=some c→((AP.kill id k).run lim ⟨h2,n,rd,wr⟩=k.run lim ⟨h2.set id none,n,rd,wr'⟩))→
     oE lim n rd wr s'∧∀ h2,Agree lim s'.rd s'.wr h h2→∃ h2',(AP.kill id k).run lim ⟨h2,n,rd,wr⟩ = .ok a ⟨h2',s'.next,s'.rd,s'.wr⟩∧Sj lim s'.next s'.wr h s'.heap h2 h2':=by
    intro wr' hsub fP hin he hrun
    obtain⟨p,q⟩:=dJ k (h.set id none) n rd wr' a s' he hl (fun x hx=>by rw[PT.bO _ _ (by omega)];exact hw x hx)
    have ET:id∈s'.wr∨lim≤id:=hin.imp (p.Ee id) _root_.id
    refine⟨⟨p.next,p.LJ,hsub.trans p.Ee,p.qw,fun x hx=>?_,p.wf⟩,fun h2 o_=>?_⟩
    ·rcases p.qx x hx with hx |hx
     ·exact fP x hx
     ·exact .inr hx
    ·have An:=o_ id b (.inr ET) hb
     obtain⟨h3,e3,u3⟩:=q (h2.set id none) (fun x c hx hc=>by
      rw[PT.aZ] at hc ⊢
      by_cases zF:x=id
      ·rw[if_pos zF] at hc ⊢;exact hc
      ·rw[if_neg zF] at hc ⊢;exact o_ x c hx hc)
     refine⟨h3,by rw[hrun h2 b An];exact e3,fun x=>?_⟩
     rcases u3 x with ⟨u,hx⟩ | ⟨u,u'⟩
     ·exact .inl ⟨u,hx⟩
     ·rw[PT.aZ] at u u'
      by_cases zF:x=id
      ·rw[if_pos zF] at u u'
       refine .inl ⟨by rw[u,u'],?_⟩
       rw[zF]
       rcases ET with h1 |h1
       ·exact .inl h1
       ·exact .inr ⟨h1,Nat.lt_of_lt_of_le Nf p.next⟩
      ·rw[if_neg zF] at u u'
       exact .inr ⟨u,u'⟩
   cases mM:Nat.blt id lim with
   |true=>
    rw[mM] at e
    have hlt:id<lim:=Nat.blt_eq.mp mM
    refine main (ins id wr) (fun x hx=>fH.2 (.inr hx)) (fun x hx=>?_) (.inl (fH.2 (.inl rfl))) e (fun h2 c An=>by simp only[AP.run,An,mM,cond_true])
    rcases fH.1 hx with rfl |hx
    ·exact .inr hlt
    ·exact .inl hx
   |false=>
    rw[mM] at e
    have hlt: ¬ id<lim:=fun hlt=>by rw[Nat.blt_eq.mpr hlt] at mM;exact Bool.noConfusion mM
    exact main wr (.refl _) (fun x hx => .inl hx) (.inr (by omega)) e (fun h2 c An=>by simp only[AP.run,An,mM,cond_false])
end
def gP (ev:fU):Prop:=∀ ro lim c m,Loc lim (ev ro lim c m)
section
variable {P:Program} {O:Over} {ev:fU} {lim:Nat}
theorem lK {α:Type} {b:Bool} {F G:HS→aH α} (hF:Loc lim F) (hG:Loc lim G):Loc lim (fun s=>cond b (F s) (G s)):=by
 cases b
 ·exact hG
 ·exact hF
theorem jw (m:Tm):∀ rs,Loc lim (b8 P lim m rs)
 | []=>dg _
 | .tmp t::r=>b_ (K:=fun l s => .ok (m.get t::l) s) (jw m r) fun l=>dg _
 | .cell a t::r=>b_ (dJ _) fun v=>b_ (K:=fun l s => .ok (v::l) s) (jw m r) fun l=>dg _
theorem lM:∀ ds,Loc lim (dO lim ds)
 | []=>dg _
 |d::r=>b_ (dJ _) fun _=>lM r
theorem pF (rs:List ResultVar) (x:aV×Tm):Loc lim (gI P lim rs x):=by
 unfold gI
 cases x.1 with
 |exit=>exact dY _
 |normal=>exact b_ (lM _) fun _=>b_ (K:=fun l s => .ok (oneOf l) s) (jw _ _) fun l=>dg _
 |ret=>exact b_ (lM _) fun _=>b_ (K:=fun l s => .ok (oneOf l) s) (jw _ _) fun l=>dg _
theorem xP (d_:gP ev) (f:FuncId) (args:List Value):Loc lim (fk P ev lim f args):=by
 unfold fk
 cases P.funcs[f]? with
 |none=>exact dY _
 |some fn=>
  dsimp only
  cases fn.body with
  |none=>exact dY _
  |some c=>exact b_ (d_ _ _ _ _) fun x=>pF _ _
theorem sy (d_:gP ev) (f:FuncId) (args:List Value):Loc lim (eB P O ev lim f args):=by
 unfold eB
 cases O f args with
 |none=>exact xP d_ f args
 |some m=>exact dJ m
theorem CW (d_:gP ev) (l:Nat) (m:Tm) (as bd:Code):Loc lim (fN ev lim l m as bd):=by
 unfold fN
 refine b_ (d_ _ _ _ _) fun x=>?_
 cases x.1 with
 |normal=>exact b_ (dJ _) fun _=>b_ (d_ _ _ _ _) fun y=>dJ _
 | _=>exact dY _
theorem xQ (d_:gP ev) (x:aD):Loc lim (eC P O ev lim x):=by
 unfold eC
 cases x with
 |value v=>exact dg _
 |skip=>exact dg _
 |enter f args=>exact sy d_ f args
 |round l m as bd=>exact CW d_ l m as bd
theorem Je (d_:gP ev) (ρ:Operand→Value) (o:Oper):Loc lim (iE P O ev lim ρ o):=by
 unfold iE
 exact lK (b_ (dJ _) fun x=>xQ d_ x) (dY _)
theorem Jf (m:Tm) (d:Option Nat) (v:Value):Loc lim (iF m d v):=by
 unfold iF
 cases m.put d v with
 |none=>exact dY _
 |some m=>exact dg _
theorem pG (d_:gP ev) (ops:List Oper) (o:Oper) (m:Tm):Loc lim (kS P O ev lim ops o m):=by
 unfold kS
 exact b_ (lK (Je d_ _ _) (dg _)) fun v=>Jf _ _ _
theorem vN (d_:gP ev) (ops:List Oper):∀ r m,Loc lim (gX P O ev lim ops r m)
 | [],m=>dg _
 |o::r,m=>b_ (pG d_ ops o m) fun m=>vN d_ ops r m
theorem jQ:∀ (l acc:List Nat) (x:Nat),x∈below lim l acc↔(x∈l∧x<lim)∨x∈acc
 | [],acc,x=>by simp[below]
 |y::l,acc,x=>by
  rw[below,jQ l]
  cases h:Nat.blt y lim with
  |true=>
   have hlt:y<lim:=Nat.blt_eq.mp h
   simp only[cond_true,fH,List.mem_cons]
   constructor
   ·rintro (⟨h1,h2⟩ |rfl |h1)
    ·exact .inl ⟨.inr h1,h2⟩
    ·exact .inl ⟨.inl rfl,hlt⟩
    ·exact .inr h1
   ·rintro (⟨rfl |h1,h2⟩ |h1)
    ·exact .inr (.inl rfl)
    ·exact .inl ⟨h1,h2⟩
    ·exact .inr (.inr h1)
  |false=>
   have hlt: ¬ y<lim:=fun hlt=>by rw[Nat.blt_eq.mpr hlt] at h;exact Bool.noConfusion h
   simp only[cond_false,List.mem_cons]
   constructor
   ·rintro (⟨h1,h2⟩ |h1)
    ·exact .inl ⟨.inr h1,h2⟩
    ·exact .inr h1
   ·rintro (⟨rfl |h1,h2⟩ |h1)
    ·exact absurd h2 hlt
    ·exact .inl ⟨h1,h2⟩
    ·exact .inr h1
theorem nP:∀ (fs:List bD) (s:HS),(aQ lim fs s).heap=s.heap∧(aQ lim fs s).next=s.next∧
  (∀ x,x∈(aQ lim fs s).rd↔(∃ f∈fs,x∈f.rd∧x<lim)∨x∈s.rd)∧(∀ x,x∈(aQ lim fs s).wr↔(∃ f∈fs,x∈f.wr∧x<lim)∨x∈s.wr)
 | [],s=>by simp[aQ]
 |f::fs,s=>by
  obtain⟨h1,h2,h3,h4⟩:=nP fs { s with rd:=below lim f.rd s.rd,wr:=below lim f.wr s.wr }
  refine⟨h1,h2,fun x=>?_,fun x=>?_⟩
  ·rw[aQ,h3,jQ]
   constructor
   ·rintro (⟨g,hg,hx⟩ |hx |hx)
    ·exact .inl ⟨g,List.mem_cons_of_mem _ hg,hx⟩
    ·exact .inl ⟨f,List.mem_cons_self,hx⟩
    ·exact .inr hx
   ·rintro (⟨g,hg,hx⟩ |hx)
    ·rcases List.mem_cons.1 hg with rfl |hg
     ·exact .inr (.inl hx)
     ·exact .inl ⟨g,hg,hx⟩
    ·exact .inr (.inr hx)
  ·rw[aQ,h4,jQ]
   constructor
   ·rintro (⟨g,hg,hx⟩ |hx |hx)
    ·exact .inl ⟨g,List.mem_cons_of_mem _ hg,hx⟩
    ·exact .inl ⟨f,List.mem_cons_self,hx⟩
    ·exact .inr hx
   ·rintro (⟨g,hg,hx⟩ |hx)
    ·rcases List.mem_cons.1 hg with rfl |hg
     ·exact .inr (.inl hx)
     ·exact .inl ⟨g,hg,hx⟩
    ·exact .inr (.inr hx)
theorem xR (d_:gP ev) (ops:List Oper):∀ (r:List Oper) (m:Tm) (h:PT ak) (n:Nat) (x:Tm×List bD) (s':HS),gY P O ev ops r m h n = .ok x s'→(∀ id,n≤id→h.get id=none)→
  n≤s'.next∧(∀ id,s'.next≤id→s'.heap.get id=none)∧s'.rd=[]∧s'.wr=[]∧(∀ f∈x.2,n≤f.lo∧f.hi≤s'.next∧(∀ y,y∈f.rd→y<f.lo)∧(∀ y,y∈f.wr→y<f.lo)∧f.lo≤f.hi)∧
  ∀ h2,(∀ id b,((∃ f∈x.2,id∈f.rd∨id∈f.wr)∨n≤id)→h.get id=some b→h2.get id=some b)→
   ∃ h2',gY P O ev ops r m h2 n = .ok x ⟨h2',s'.next,[],[]⟩∧
    ∀ id,(h2'.get id=s'.heap.get id∧((∃ f∈x.2,id∈f.wr)∨(n≤id∧id<s'.next)))∨(h2'.get id=h2.get id∧s'.heap.get id=h.get id)
 | [],m,h,n,x,s',e,hw=>by
  simp only[gY,aH.ok.injEq] at e
  obtain⟨rfl,rfl⟩:=e
  exact⟨Nat.le_refl _,hw,rfl,rfl,fun f hf=>by simp at hf,fun h2 _=>⟨h2,rfl,fun id => .inr ⟨rfl,rfl⟩⟩⟩
 |o::r,m,h,n,x,s',e,hw=>by
  simp only[gY] at e
  cases h1:kS P O ev n ops o m ⟨h,n,[],[]⟩ with
  |fail w=>simp[bH,h1] at e
  |ok m₁ s₁=>
   simp only[bH,h1] at e
   cases h2:gY P O ev ops r m₁ s₁.heap s₁.next with
   |fail w=>simp[h2] at e
   |ok x₁ s₂=>
    simp only[h2,aH.ok.injEq] at e
    obtain⟨rfl,rfl⟩:=e
    obtain⟨p,q⟩:=pG (P:=P) (lim:=n) d_ ops o m h n [] [] m₁ s₁ h1 (Nat.le_refl _) hw
    obtain⟨g1,g2,g3,g4,g5,g6⟩:=xR d_ ops r m₁ s₁.heap s₁.next x₁ s₂ h2 p.wf
    have plo:∀ y,y∈s₁.rd→y<n:=fun y hy=>(p.qw y hy).resolve_left (by simp)
    have aaI:∀ y,y∈s₁.wr→y<n:=fun y hy=>(p.qx y hy).resolve_left (by simp)
    have pn:=p.next
    refine⟨Nat.le_trans pn g1,g2,g3,g4,?_,fun k hk=>?_⟩
    ·intro f hf
     rcases List.mem_cons.1 hf with rfl |hf
     ·exact⟨Nat.le_refl _,g1,plo,aaI,pn⟩
     ·obtain⟨k1,k2,k3,k4,k5⟩:=g5 f hf
      exact⟨Nat.le_trans pn k1,k2,k3,k4,k5⟩
    ·obtain⟨k1,e1,u1⟩:=q k (fun id b hid hb=>hk id b (by
      rcases hid with hid |hid |hid
      ·exact .inl ⟨_,List.mem_cons_self,.inl hid⟩
      ·exact .inl ⟨_,List.mem_cons_self,.inr hid⟩
      ·exact .inr hid) hb)
     obtain⟨k2,e2,u2⟩:=g6 k1 (fun id b hid hb=>by
      rcases u1 id with ⟨u,_⟩ | ⟨u,u'⟩
      ·rw[u];exact hb
      ·rw[u]
       refine hk id b ?_ (by rw[←u'];exact hb)
       rcases hid with ⟨f,hf,hid⟩ |hid
       ·exact .inl ⟨f,List.mem_cons_of_mem _ hf,hid⟩
       ·exact .inr (Nat.le_trans pn hid))
     refine⟨k2,?_,fun id=>?_⟩
     ·simp only[gY,bH,e1,e2,g3,g4]
     ·rcases u2 id with ⟨u,hid⟩ | ⟨u,u'⟩
      ·refine .inl ⟨u,?_⟩
       rcases hid with ⟨f,hf,hid⟩ | ⟨h3,h4⟩
       ·exact .inl ⟨f,List.mem_cons_of_mem _ hf,hid⟩
       ·exact .inr ⟨Nat.le_trans pn h3,h4⟩
      ·rcases u1 id with ⟨v,hid⟩ | ⟨v,v'⟩
       ·refine .inl ⟨by rw[u,v,u'],?_⟩
        rcases hid with hid | ⟨h3,h4⟩
        ·exact .inl ⟨_,List.mem_cons_self,hid⟩
        ·exact .inr ⟨h3,Nat.lt_of_lt_of_le h4 g1⟩
       ·exact .inr ⟨by rw[u,v],by rw[u',v']⟩
theorem xS (d_:gP ev) (ops:List Oper) (m:Tm):Loc lim (eD P O ev lim ops m):=by
 intro h n rd wr a s' e hl hw
 simp only[eD] at e
 cases hd:fO ops (aL (aO [] ops) ops.length) with
 |false=>simp[hd] at e
 |true=>
  simp only[hd,cond_true] at e
  cases hf:gY P O ev ops ops m h n with
  |fail w=>simp[bH,hf] at e
  |ok x s₁=>
   simp only[bH,hf] at e
   cases hk:cG x.2 (aL (aO [] ops) ops.length) with
   |false=>simp[hk] at e
   |true=>
    simp only[hk,cond_true] at e
    obtain⟨g1,g2,g3,g4,g5,g6⟩:=xR d_ ops ops m h n x s₁ hf hw
    have key:∀ h₀:PT ak,∃ sF:HS,(cond (Nat.beq lim 0) (⟨h₀,s₁.next,rd,wr⟩:HS) (aQ lim x.2 ⟨h₀,s₁.next,rd,wr⟩))=sF∧sF.heap=h₀∧sF.next=s₁.next∧
      (∀ y,y∈sF.rd↔(∃ f∈x.2,y∈f.rd∧y<lim)∨y∈rd)∧(∀ y,y∈sF.wr↔(∃ f∈x.2,y∈f.wr∧y<lim)∨y∈wr):=by
     intro h₀
     refine⟨_,rfl,?_⟩
     cases hz:Nat.beq lim 0 with
     |true=>
      have:=Nat.eq_of_beq_eq_true hz
      subst this
      simp
     |false=>
      obtain⟨m1,m2,m3,m4⟩:=nP (lim:=lim) x.2 ⟨h₀,s₁.next,rd,wr⟩
      exact⟨m1,m2,m3,m4⟩
    have same:∀ h₀ h₁:PT ak,(aQ lim x.2 ⟨h₀,s₁.next,rd,wr⟩).rd=(aQ lim x.2 ⟨h₁,s₁.next,rd,wr⟩).rd∧(aQ lim x.2 ⟨h₀,s₁.next,rd,wr⟩).wr=(aQ lim x.2 ⟨h₁,s₁.next,rd,wr⟩).wr:=by
     intro h₀ h₁
     have gen:∀ (fs:List bD) (r q:List Nat),(aQ lim fs ⟨h₀,s₁.next,r,q⟩).rd=(aQ lim fs ⟨h₁,s₁.next,r,q⟩).rd∧(aQ lim fs ⟨h₀,s₁.next,r,q⟩).wr=(aQ lim fs ⟨h₁,s₁.next,r,q⟩).wr:=by
      intro fs
      induction fs with
      |nil=>exact fun r q=>⟨rfl,rfl⟩
      |cons f fs ih=>exact fun r q=>ih _ _
     exact gen _ _ _
    obtain⟨sF,hs,k1,k2,k3,k4⟩:=key s₁.heap
    rw[hs] at e
    simp only[aH.ok.injEq] at e
    obtain⟨rfl,rfl⟩:=e
    refine⟨⟨by rw[k2];exact g1,fun y hy=>(k3 y).2 (.inr hy),fun y hy=>(k4 y).2 (.inr hy),fun y hy=>?_,fun y hy=>?_,by rw[k1,k2];exact g2⟩,fun h2 o_=>?_⟩
    ·rcases(k3 y).1 hy with ⟨f,_,_,hlt⟩ |hy
     ·exact .inr hlt
     ·exact .inl hy
    ·rcases(k4 y).1 hy with ⟨f,_,_,hlt⟩ |hy
     ·exact .inr hlt
     ·exact .inl hy
    ·obtain⟨h3,e3,u3⟩:=g6 h2 (fun id b hid hb=>o_ id b (by
      rcases hid with ⟨f,hf,hid |hid⟩ |hid
      ·by_cases hlt:id<lim
       ·exact .inl ((k3 id).2 (.inl ⟨f,hf,hid,hlt⟩))
       ·exact .inr (.inr (by omega))
      ·by_cases hlt:id<lim
       ·exact .inr (.inl ((k4 id).2 (.inl ⟨f,hf,hid,hlt⟩)))
       ·exact .inr (.inr (by omega))
      ·exact .inr (.inr (by omega))) hb)
     obtain⟨sG,M_,j1,j2,j3,j4⟩:=key h3
     have hsame:sG=⟨h3,sF.next,sF.rd,sF.wr⟩:=by
      have q1:sG.rd=sF.rd:=by
       rw[←hs,←M_]
       cases Nat.beq lim 0
       ·exact(same h3 s₁.heap).1
       ·rfl
      have q2:sG.wr=sF.wr:=by
       rw[←hs,←M_]
       cases Nat.beq lim 0
       ·exact(same h3 s₁.heap).2
       ·rfl
      cases sG
      simp only at j1 j2 q1 q2
      subst j1 j2 q1 q2
      rw[k2]
     refine⟨h3,?_,fun id=>?_⟩
     ·simp only[eD,hd,cond_true,bH,e3,hk]
      rw[M_,hsame]
     ·rw[k1,k2]
      rcases u3 id with ⟨u,hid⟩ |hid
      ·refine .inl ⟨u,?_⟩
       rcases hid with ⟨f,hf,hid⟩ | ⟨h5,h6⟩
       ·by_cases hlt:id<lim
        ·exact .inl ((k4 id).2 (.inl ⟨f,hf,hid,hlt⟩))
        ·obtain⟨q1,q2,q3,q4,q5⟩:=g5 f hf
         have:=q4 id hid
         exact .inr ⟨by omega,by omega⟩
       ·exact .inr ⟨by omega,h6⟩
      ·exact .inr hid
theorem CX (d_:gP ev) (ro:Option Nat) (g:Operand) (ps:List Tmp) (assign body:Code) (m:Tm):Loc lim (eE P O ev ro lim g ps assign body m):=by
 unfold eE
 exact lK (b_ (dJ _) fun ld=>b_ (dJ _) fun fa=>b_ (sy d_ _ _) fun _=>b_ (K:=fun x s => .ok (x,{ m with eS:=ld.2 }) s) (dJ _) fun x=>dg _) (dY _)
theorem EU (d_:gP ev):gP (aY P O ev):=by
 intro ro lim c m
 unfold aY
 cases c with
 |skip=>exact dg _
 |region id ops draw=>exact b_ (K:=fun m s => .ok (aV.normal,m) s) (lK (xS d_ _ _) (vN d_ _ _ _)) fun m=>dg _
 |seq a b=>
  refine b_ (d_ _ _ _ _) fun x=>?_
  cases x.1 with
  |normal=>exact d_ _ _ _ _
  | _=>exact dg _
 |cond c a b=>
  refine lK ?_ (dY _)
  split
  ·exact d_ _ _ _ _
  ·exact d_ _ _ _ _
  ·exact dY _
 |block id c=>
  refine b_ (d_ _ _ _ _) fun x=>?_
  cases x.1 with
  |exit=>exact dg _
  | _=>exact dg _
 |loop c=>
  refine b_ (d_ _ _ _ _) fun x=>?_
  cases x.1 with
  |normal=>exact d_ _ _ _ _
  | _=>exact dg _
 |rangeFunc g ps assign body=>exact CX d_ _ _ _ _ _ _
 |exit id=>exact dg _
 |scope c=>exact d_ _ _ _ _
 |label l=>exact dg _
 |goto l=>exact dY _
 |ret=>exact dg _
 |refuse w=>exact dY _
theorem pH:∀ n,gP (jW P O n)
 |0=>fun ro lim c m=>dY _
 |n+1=>EU (pH n)
end
end Go.Am
