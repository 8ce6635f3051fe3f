/-
  The abstract machine: what a run does depends on the blocks that it notes alone.
-/
import Derived.Test.YtfhmopghjoeamaaGreatAmB
import Derived.Test.YtfhmopghjoeamaaGreatAmC
set_option linter.unusedSimpArgs false
set_option linter.unusedVariables false
namespace Go.Am
def Sub (a b:List Nat):Prop:=∀ x,x∈a→x∈b
theorem Sub.refl (a:List Nat):Sub a a:=fun _ h=>h
theorem Sub.trans {a b c:List Nat} (h:Sub a b) (k:Sub b c):Sub a c:=fun x hx=>k x (h x hx)
theorem dK {n x:Nat} {l:List Nat}:x∈ins n l↔x=n∨x∈l:=by
 unfold ins
 cases h:l.any (Nat.beq n) with
 |true=>
  simp only[cond_true]
  obtain⟨y,hy,hb⟩:=List.any_eq_true.1 h
  have:=Nat.eq_of_beq_eq_true hb
  subst this
  constructor
  ·exact .inr
  ·rintro (rfl |h)
   ·exact hy
   ·exact h
 |false=>simp
structure kS (lim n:Nat) (rd wr:List Nat) (s':HS):Prop where
 next:n≤s'.next
 Dy:Sub rd s'.rd
 x6:Sub wr s'.wr
 mF:∀ x,x∈s'.rd→x∈rd∨x<lim
 mG:∀ x,x∈s'.wr→x∈wr∨x<lim
 wf:∀ id,s'.next≤id→s'.heap.get id=none
def Ij (lim n':Nat) (wr:List Nat) (h h' h2 h2':PT ak):Prop:=
 ∀ id,(h2'.get id=h'.get id∧(id∈wr∨(lim≤id∧id<n')))∨(h2'.get id=h2.get id∧h'.get id=h.get id)
def Agree (lim:Nat) (rd wr:List Nat) (h h2:PT ak):Prop:=
 ∀ id b,(id∈rd∨id∈wr∨lim≤id)→h.get id=some b→h2.get id=some b
def Loc (lim:Nat) {α:Type} (F:HS→aS α):Prop:=
 ∀ h n rd wr a s',F ⟨h,n,rd,wr⟩ = .ok a s'→lim≤n→(∀ id,n≤id→h.get id=none)→
  kS lim n rd wr s'∧∀ h2,Agree lim s'.rd s'.wr h h2→∃ h2',F ⟨h2,n,rd,wr⟩ = .ok a ⟨h2',s'.next,s'.rd,s'.wr⟩∧Ij lim s'.next s'.wr h s'.heap h2 h2'
section
variable {lim:Nat} {α β:Type}
theorem b7 (a:α):Loc lim (fun s=>aS.ok a s):=by
 intro h n rd wr a' s' e hl hw
 simp only[aS.ok.injEq] at e
 obtain⟨rfl,rfl⟩:=e
 exact⟨⟨Nat.le_refl _,.refl _,.refl _,fun x hx => .inl hx,fun x hx => .inl hx,hw⟩,fun h2 _=>⟨h2,rfl,fun id => .inr ⟨rfl,rfl⟩⟩⟩
theorem cH (w:String):Loc lim (fun _=>(aS.fail w:aS α)):=by
 intro h n rd wr a' s' e
 simp at e
theorem bG {G:HS→aS α} {K:α→HS→aS β} (hG:Loc lim G) (hK:∀ a,Loc lim (K a)):Loc lim (fun s=>bz (G s) K):=by
 intro h n rd wr b s' e hl hw
 simp only[bz] at e
 split at e
 ·rename_i a s₁ hg
  obtain⟨p,q⟩:=hG h n rd wr a s₁ hg hl hw
  obtain⟨p',q'⟩:=hK a s₁.heap s₁.next s₁.rd s₁.wr b s' e (Nat.le_trans hl p.next) p.wf
  refine⟨⟨Nat.le_trans p.next p'.next,p.Dy.trans p'.Dy,p.x6.trans p'.x6,fun x hx=>?_,fun x hx=>?_,p'.wf⟩,fun h2 lq=>?_⟩
  ·rcases p'.mF x hx with hx |hx
   ·exact p.mF x hx
   ·exact .inr hx
  ·rcases p'.mG x hx with hx |hx
   ·exact p.mG x hx
   ·exact .inr hx
  ·obtain⟨h3,e3,u3⟩:=q h2 (fun id b hid hb=>lq id b (hid.imp (p'.Dy id) (Or.imp (p'.x6 id) fun q=>q)) hb)
   obtain⟨h4,e4,u4⟩:=q' h3 (fun id b hid hb=>by
    rcases u3 id with ⟨u,_⟩ | ⟨u,u'⟩
    ·rw[u];exact hb
    ·rw[u];exact lq id b hid (by rw[←u'];exact hb))
   refine⟨h4,?_,fun id=>?_⟩
   ·simp only[bz,e3,e4]
   ·rcases u4 id with ⟨u,hid⟩ | ⟨u,u'⟩
    ·exact .inl ⟨u,hid⟩
    ·rcases u3 id with ⟨v,hid⟩ | ⟨v,v'⟩
     ·refine .inl ⟨by rw[u,v,u'],?_⟩
      rcases hid with hid | ⟨h5,h6⟩
      ·exact .inl (p'.x6 id hid)
      ·exact .inr ⟨h5,Nat.lt_of_lt_of_le h6 p'.next⟩
     ·exact .inr ⟨by rw[u,v],by rw[u',v']⟩
 ·simp at e
theorem cm:∀ (m:AP α),Loc lim (m.run lim)
 | .pure a=>b7 a
 | .fail w=>by intro h n rd wr a' s' e;simp[AP.run] at e
 | .get id k=>by
  intro h n rd wr a s' e hl hw
  simp only[AP.run] at e
  split at e
  ·simp at e
  ·rename_i b hb
   have main:∀ rd',Sub rd rd'→(∀ x,x∈rd'→x∈rd∨x<lim)→(id∈rd'∨lim≤id)→(k b).run lim ⟨h,n,rd',wr⟩ = .ok a s'→
     (∀ h2:PT ak,h2.get id=some b→((AP.get id k).run lim ⟨h2,n,rd,wr⟩=(k b).run lim ⟨h2,n,rd',wr⟩))→
     kS lim n rd wr s'∧∀ h2,Agree lim s'.rd s'.wr h h2→∃ h2',(AP.get id k).run lim ⟨h2,n,rd,wr⟩ = .ok a ⟨h2',s'.next,s'.rd,s'.wr⟩∧Ij lim s'.next s'.wr h s'.heap h2 h2':=by
    intro rd' hsub dL hin he hrun
    obtain⟨p,q⟩:=cm (k b) h n rd' wr a s' he hl hw
    refine⟨⟨p.next,hsub.trans p.Dy,p.x6,fun x hx=>?_,p.mG,p.wf⟩,fun h2 lq=>?_⟩
    ·rcases p.mF x hx with hx |hx
     ·exact dL x hx
     ·exact .inr hx
    ·obtain⟨h3,e3,u3⟩:=q h2 lq
     refine⟨h3,?_,u3⟩
     rw[hrun h2 (lq id b (by
      rcases hin with hin |hin
      ·exact .inl (p.Dy id hin)
      ·exact .inr (.inr hin)) hb)]
     exact e3
   cases jK:Nat.blt id lim with
   |true=>
    rw[jK] at e
    have hlt:id<lim:=Nat.blt_eq.mp jK
    refine main (ins id rd) (fun x hx=>dK.2 (.inr hx)) (fun x hx=>?_) (.inl (dK.2 (.inl rfl))) e (fun h2 uL=>by simp only[AP.run,uL,jK,cond_true])
    rcases dK.1 hx with rfl |hx
    ·exact .inr hlt
    ·exact .inl hx
   |false=>
    rw[jK] at e
    have hlt: ¬ id<lim:=fun hlt=>by rw[Nat.blt_eq.mpr hlt] at jK;exact Bool.noConfusion jK
    exact main rd (.refl _) (fun x hx => .inl hx) (.inr (by omega)) e (fun h2 uL=>by simp only[AP.run,uL,jK,cond_false])
 | .new b k=>by
  intro h n rd wr a s' e hl hw
  simp only[AP.run] at e
  obtain⟨p,q⟩:=cm (k n) (h.set n (some b)) (n+1) rd wr a s' e (by omega) (fun id hid=>by rw[PT.bE _ _ (by omega)];exact hw id (by omega))
  have hn:n+1≤s'.next:=p.next
  refine⟨⟨by omega,p.Dy,p.x6,p.mF,p.mG,p.wf⟩,fun h2 lq=>?_⟩
  obtain⟨h3,e3,u3⟩:=q (h2.set n (some b)) (fun id c hid hc=>by
   rw[PT.aR] at hc ⊢
   by_cases hin:id=n
   ·rw[if_pos hin] at hc ⊢;exact hc
   ·rw[if_neg hin] at hc ⊢;exact lq id c hid hc)
  refine⟨h3,e3,fun id=>?_⟩
  rcases u3 id with ⟨u,hid⟩ | ⟨u,u'⟩
  ·exact .inl ⟨u,hid⟩
  ·rw[PT.aR] at u u'
   by_cases hin:id=n
   ·rw[if_pos hin] at u u'
    exact .inl ⟨by rw[u,u'],.inr ⟨by omega,by omega⟩⟩
   ·rw[if_neg hin] at u u'
    exact .inr ⟨u,u'⟩
 | .set id B k=>by
  intro h n rd wr a s' e hl hw
  simp only[AP.run] at e
  split at e
  ·simp at e
  ·rename_i b hb
   have Ez:id<n:=by
    rcases Nat.lt_or_ge id n with hh |hh
    ·exact hh
    ·rw[hw id hh] at hb;simp at hb
   have main:∀ wr',Sub wr wr'→(∀ x,x∈wr'→x∈wr∨x<lim)→(id∈wr'∨lim≤id)→k.run lim ⟨h.set id (some B),n,rd,wr'⟩ = .ok a s'→
     (∀ (h2:PT ak) c,h2.get id=some c→((AP.set id B k).run lim ⟨h2,n,rd,wr⟩=k.run lim ⟨h2.set id (some B),n,rd,wr'⟩))→
     kS lim n rd wr s'∧∀ h2,Agree lim s'.rd s'.wr h h2→∃ h2',(AP.set id B k).run lim ⟨h2,n,rd,wr⟩ = .ok a ⟨h2',s'.next,s'.rd,s'.wr⟩∧Ij lim s'.next s'.wr h s'.heap h2 h2':=by
    intro wr' hsub dL hin he hrun
    obtain⟨p,q⟩:=cm k (h.set id (some B)) n rd wr' a s' he hl (fun x hx=>by rw[PT.bE _ _ (by omega)];exact hw x hx)
    have yR:id∈s'.wr∨lim≤id:=hin.imp (p.x6 id) _root_.id
    refine⟨⟨p.next,p.Dy,hsub.trans p.x6,p.mF,fun x hx=>?_,p.wf⟩,fun h2 lq=>?_⟩
    ·rcases p.mG x hx with hx |hx
     ·exact dL x hx
     ·exact .inr hx
    ·have uL:=lq id b (.inr yR) hb
     obtain⟨h3,e3,u3⟩:=q (h2.set id (some B)) (fun x c hx hc=>by
      rw[PT.aR] at hc ⊢
      by_cases tS:x=id
      ·rw[if_pos tS] at hc ⊢;exact hc
      ·rw[if_neg tS] at hc ⊢;exact lq x c hx hc)
     refine⟨h3,by rw[hrun h2 b uL];exact e3,fun x=>?_⟩
     rcases u3 x with ⟨u,hx⟩ | ⟨u,u'⟩
     ·exact .inl ⟨u,hx⟩
     ·rw[PT.aR] at u u'
      by_cases tS:x=id
      ·rw[if_pos tS] at u u'
       refine .inl ⟨by rw[u,u'],?_⟩
       rw[tS]
       rcases yR with h1 |h1
       ·exact .inl h1
       ·exact .inr ⟨h1,Nat.lt_of_lt_of_le Ez p.next⟩
      ·rw[if_neg tS] at u u'
       exact .inr ⟨u,u'⟩
   cases jK:Nat.blt id lim with
   |true=>
    rw[jK] at e
    have hlt:id<lim:=Nat.blt_eq.mp jK
    refine main (ins id wr) (fun x hx=>dK.2 (.inr hx)) (fun x hx=>?_) (.inl (dK.2 (.inl rfl))) e (fun h2 c uL=>by simp only[AP.run,uL,jK,cond_true])
    rcases dK.1 hx with rfl |hx
    ·exact .inr hlt
    ·exact .inl hx
   |false=>
    rw[jK] at e
    have hlt: ¬ id<lim:=fun hlt=>by rw[Nat.blt_eq.mpr hlt] at jK;exact Bool.noConfusion jK
    exact main wr (.refl _) (fun x hx => .inl hx) (.inr (by omega)) e (fun h2 c uL=>by simp only[AP.run,uL,jK,cond_false])
 | .kill id k=>by
  intro h n rd wr a s' e hl hw
  simp only[AP.run] at e
  split at e
  ·simp at e
  ·rename_i b hb
   have Ez:id<n:=by
    rcases Nat.lt_or_ge id n with hh |hh
    ·exact hh
    ·rw[hw id hh] at hb;simp at hb
   have main:∀ wr',Sub wr wr'→(∀ x,x∈wr'→x∈wr∨x<lim)→(id∈wr'∨lim≤id)→k.run lim ⟨h.set id none,n,rd,wr'⟩ = .ok a s'→
     (∀ (h2:PT ak) c,h2.get id=some c→((AP.kill id k).run lim ⟨h2,n,rd,wr⟩=k.run lim ⟨h2.set id none,n,rd,wr'⟩))→
     kS lim n rd wr s'∧∀ h2,Agree lim s'.rd s'.wr h h2→∃ h2',(AP.kill id k).run lim ⟨h2,n,rd,wr⟩ = .ok a ⟨h2',s'.next,s'.rd,s'.wr⟩∧Ij lim s'.next s'.wr h s'.heap h2 h2':=by
    intro wr' hsub dL hin he hrun
    obtain⟨p,q⟩:=cm k (h.set id none) n rd wr' a s' he hl (fun x hx=>by rw[PT.bE _ _ (by omega)];exact hw x hx)
    have yR:id∈s'.wr∨lim≤id:=hin.imp (p.x6 id) _root_.id
    refine⟨⟨p.next,p.Dy,hsub.trans p.x6,p.mF,fun x hx=>?_,p.wf⟩,fun h2 lq=>?_⟩
    ·rcases p.mG x hx with hx |hx
     ·exact dL x hx
     ·exact .inr hx
    ·have uL:=lq id b (.inr yR) hb
     obtain⟨h3,e3,u3⟩:=q (h2.set id none) (fun x c hx hc=>by
      rw[PT.aR] at hc ⊢
      by_cases tS:x=id
      ·rw[if_pos tS] at hc ⊢;exact hc
      ·rw[if_neg tS] at hc ⊢;exact lq x c hx hc)
     refine⟨h3,by rw[hrun h2 b uL];exact e3,fun x=>?_⟩
     rcases u3 x with ⟨u,hx⟩ | ⟨u,u'⟩
     ·exact .inl ⟨u,hx⟩
     ·rw[PT.aR] at u u'
      by_cases tS:x=id
      ·rw[if_pos tS] at u u'
       refine .inl ⟨by rw[u,u'],?_⟩
       rw[tS]
       rcases yR with h1 |h1
       ·exact .inl h1
       ·exact .inr ⟨h1,Nat.lt_of_lt_of_le Ez p.next⟩
      ·rw[if_neg tS] at u u'
       exact .inr ⟨u,u'⟩
   cases jK:Nat.blt id lim with
   |true=>
    rw[jK] at e
    have hlt:id<lim:=Nat.blt_eq.mp jK
    refine main (ins id wr) (fun x hx=>dK.2 (.inr hx)) (fun x hx=>?_) (.inl (dK.2 (.inl rfl))) e (fun h2 c uL=>by simp only[AP.run,uL,jK,cond_true])
    rcases dK.1 hx with rfl |hx
    ·exact .inr hlt
    ·exact .inl hx
   |false=>
    rw[jK] at e
    have hlt: ¬ id<lim:=fun hlt=>by rw[Nat.blt_eq.mpr hlt] at jK;exact Bool.noConfusion jK
    exact main wr (.refl _) (fun x hx => .inl hx) (.inr (by omega)) e (fun h2 c uL=>by simp only[AP.run,uL,jK,cond_false])
end
def eF (ev:iA):Prop:=∀ ro lim c m,Loc lim (ev ro lim c m)
section
variable {P:Program} {O:Over} {ev:iA} {lim:Nat}
theorem jq {α:Type} {b:Bool} {F G:HS→aS α} (hF:Loc lim F) (hG:Loc lim G):Loc lim (fun s=>cond b (F s) (G s)):=by
 cases b
 ·exact hG
 ·exact hF
theorem gF (m:Tm):∀ rs,Loc lim (bP P lim m rs)
 | []=>b7 _
 | .tmp t::r=>bG (K:=fun l s => .ok (m.get t::l) s) (gF m r) fun l=>b7 _
 | .cell a t::r=>bG (cm _) fun v=>bG (K:=fun l s => .ok (v::l) s) (gF m r) fun l=>b7 _
theorem jr:∀ ds,Loc lim (dF lim ds)
 | []=>b7 _
 |d::r=>bG (cm _) fun _=>jr r
theorem lG (rs:List ResultVar) (x:bp×Tm):Loc lim (gK P lim rs x):=by
 unfold gK
 cases x.1 with
 |exit=>exact cH _
 |normal=>exact bG (jr _) fun _=>bG (K:=fun l s => .ok (oneOf l) s) (gF _ _) fun l=>b7 _
 |ret=>exact bG (jr _) fun _=>bG (K:=fun l s => .ok (oneOf l) s) (gF _ _) fun l=>b7 _
theorem rV (cL:eF ev) (f:FuncId) (args:List Value):Loc lim (eP P ev lim f args):=by
 unfold eP
 cases P.funcs[f]? with
 |none=>exact cH _
 |some fn=>
  dsimp only
  cases fn.body with
  |none=>exact cH _
  |some c=>exact bG (cL _ _ _ _) fun x=>lG _ _
theorem n_ (cL:eF ev) (f:FuncId) (args:List Value):Loc lim (dO P O ev lim f args):=by
 unfold dO
 cases O f args with
 |none=>exact rV cL f args
 |some m=>exact cm m
theorem wT (cL:eF ev) (l:Nat) (m:Tm) (as bd:Code):Loc lim (dU ev lim l m as bd):=by
 unfold dU
 refine bG (cL _ _ _ _) fun x=>?_
 cases x.1 with
 |normal=>exact bG (cm _) fun _=>bG (cL _ _ _ _) fun y=>cm _
 | _=>exact cH _
theorem rX (cL:eF ev) (x:aC):Loc lim (ep P O ev lim x):=by
 unfold ep
 cases x with
 |value v=>exact b7 _
 |skip=>exact b7 _
 |enter f args=>exact n_ cL f args
 |round l m as bd=>exact wT cL l m as bd
theorem BK (cL:eF ev) (ρ:Operand→Value) (o:Oper):Loc lim (gS P O ev lim ρ o):=by
 unfold gS
 exact jq (bG (cm _) fun x=>rX cL x) (cH _)
theorem BL (m:Tm) (d:Option Nat) (v:Value):Loc lim (gT m d v):=by
 unfold gT
 cases m.put d v with
 |none=>exact cH _
 |some m=>exact b7 _
theorem lH (cL:eF ev) (ops:List Oper) (o:Oper) (m:Tm):Loc lim (kE P O ev lim ops o m):=by
 unfold kE
 exact bG (jq (BK cL _ _) (b7 _)) fun v=>BL _ _ _
theorem qB (cL:eF ev) (ops:List Oper):∀ r m,Loc lim (gp P O ev lim ops r m)
 | [],m=>b7 _
 |o::r,m=>bG (lH cL ops o m) fun m=>qB cL ops r m
theorem gX:∀ (l acc:List Nat) (x:Nat),x∈below lim l acc↔(x∈l∧x<lim)∨x∈acc
 | [],acc,x=>by simp[below]
 |y::l,acc,x=>by
  rw[below,gX l]
  cases h:Nat.blt y lim with
  |true=>
   have hlt:y<lim:=Nat.blt_eq.mp h
   simp only[cond_true,dK,List.mem_cons]
   constructor
   ·rintro (⟨h1,h2⟩ |rfl |h1)
    ·exact .inl ⟨.inr h1,h2⟩
    ·exact .inl ⟨.inl rfl,hlt⟩
    ·exact .inr h1
   ·rintro (⟨rfl |h1,h2⟩ |h1)
    ·exact .inr (.inl rfl)
    ·exact .inl ⟨h1,h2⟩
    ·exact .inr (.inr h1)
  |false=>
   have hlt: ¬ y<lim:=fun hlt=>by rw[Nat.blt_eq.mpr hlt] at h;exact Bool.noConfusion h
   simp only[cond_false,List.mem_cons]
   constructor
   ·rintro (⟨h1,h2⟩ |h1)
    ·exact .inl ⟨.inr h1,h2⟩
    ·exact .inr h1
   ·rintro (⟨rfl |h1,h2⟩ |h1)
    ·exact absurd h2 hlt
    ·exact .inl ⟨h1,h2⟩
    ·exact .inr h1
theorem kg:∀ (fs:List bD) (s:HS),(aK lim fs s).heap=s.heap∧(aK lim fs s).next=s.next∧
  (∀ x,x∈(aK lim fs s).rd↔(∃ f∈fs,x∈f.rd∧x<lim)∨x∈s.rd)∧(∀ x,x∈(aK lim fs s).wr↔(∃ f∈fs,x∈f.wr∧x<lim)∨x∈s.wr)
 | [],s=>by simp[aK]
 |f::fs,s=>by
  obtain⟨h1,h2,h3,h4⟩:=kg fs { s with rd:=below lim f.rd s.rd,wr:=below lim f.wr s.wr }
  refine⟨h1,h2,fun x=>?_,fun x=>?_⟩
  ·rw[aK,h3,gX]
   constructor
   ·rintro (⟨g,hg,hx⟩ |hx |hx)
    ·exact .inl ⟨g,List.mem_cons_of_mem _ hg,hx⟩
    ·exact .inl ⟨f,List.mem_cons_self,hx⟩
    ·exact .inr hx
   ·rintro (⟨g,hg,hx⟩ |hx)
    ·rcases List.mem_cons.1 hg with rfl |hg
     ·exact .inr (.inl hx)
     ·exact .inl ⟨g,hg,hx⟩
    ·exact .inr (.inr hx)
  ·rw[aK,h4,gX]
   constructor
   ·rintro (⟨g,hg,hx⟩ |hx |hx)
    ·exact .inl ⟨g,List.mem_cons_of_mem _ hg,hx⟩
    ·exact .inl ⟨f,List.mem_cons_self,hx⟩
    ·exact .inr hx
   ·rintro (⟨g,hg,hx⟩ |hx)
    ·rcases List.mem_cons.1 hg with rfl |hg
     ·exact .inr (.inl hx)
     ·exact .inl ⟨g,hg,hx⟩
    ·exact .inr (.inr hx)
theorem rY (cL:eF ev) (ops:List Oper):∀ (r:List Oper) (m:Tm) (h:PT ak) (n:Nat) (x:Tm×List bD) (s':HS),gq P O ev ops r m h n = .ok x s'→(∀ id,n≤id→h.get id=none)→
  n≤s'.next∧(∀ id,s'.next≤id→s'.heap.get id=none)∧s'.rd=[]∧s'.wr=[]∧(∀ f∈x.2,n≤f.lo∧f.hi≤s'.next∧(∀ y,y∈f.rd→y<f.lo)∧(∀ y,y∈f.wr→y<f.lo)∧f.lo≤f.hi)∧
  ∀ h2,(∀ id b,((∃ f∈x.2,id∈f.rd∨id∈f.wr)∨n≤id)→h.get id=some b→h2.get id=some b)→
   ∃ h2',gq P O ev ops r m h2 n = .ok x ⟨h2',s'.next,[],[]⟩∧
    ∀ id,(h2'.get id=s'.heap.get id∧((∃ f∈x.2,id∈f.wr)∨(n≤id∧id<s'.next)))∨(h2'.get id=h2.get id∧s'.heap.get id=h.get id)
 | [],m,h,n,x,s',e,hw=>by
  simp only[gq,aS.ok.injEq] at e
  obtain⟨rfl,rfl⟩:=e
  exact⟨Nat.le_refl _,hw,rfl,rfl,fun f hf=>by simp at hf,fun h2 _=>⟨h2,rfl,fun id => .inr ⟨rfl,rfl⟩⟩⟩
 |o::r,m,h,n,x,s',e,hw=>by
  simp only[gq] at e
  cases h1:kE P O ev n ops o m ⟨h,n,[],[]⟩ with
  |fail w=>simp[bz,h1] at e
  |ok m₁ s₁=>
   simp only[bz,h1] at e
   cases h2:gq P O ev ops r m₁ s₁.heap s₁.next with
   |fail w=>simp[h2] at e
   |ok x₁ s₂=>
    simp only[h2,aS.ok.injEq] at e
    obtain⟨rfl,rfl⟩:=e
    obtain⟨p,q⟩:=lH (P:=P) (lim:=n) cL ops o m h n [] [] m₁ s₁ h1 (Nat.le_refl _) hw
    obtain⟨g1,g2,g3,g4,g5,g6⟩:=rY cL ops r m₁ s₁.heap s₁.next x₁ s₂ h2 p.wf
    have V3:∀ y,y∈s₁.rd→y<n:=fun y hy=>(p.mF y hy).resolve_left (by simp)
    have N7:∀ y,y∈s₁.wr→y<n:=fun y hy=>(p.mG y hy).resolve_left (by simp)
    have pn:=p.next
    refine⟨Nat.le_trans pn g1,g2,g3,g4,?_,fun k hk=>?_⟩
    ·intro f hf
     rcases List.mem_cons.1 hf with rfl |hf
     ·exact⟨Nat.le_refl _,g1,V3,N7,pn⟩
     ·obtain⟨k1,k2,k3,k4,k5⟩:=g5 f hf
      exact⟨Nat.le_trans pn k1,k2,k3,k4,k5⟩
    ·obtain⟨k1,e1,u1⟩:=q k (fun id b hid hb=>hk id b (by
      rcases hid with hid |hid |hid
      ·exact .inl ⟨_,List.mem_cons_self,.inl hid⟩
      ·exact .inl ⟨_,List.mem_cons_self,.inr hid⟩
      ·exact .inr hid) hb)
     obtain⟨k2,e2,u2⟩:=g6 k1 (fun id b hid hb=>by
      rcases u1 id with ⟨u,_⟩ | ⟨u,u'⟩
      ·rw[u];exact hb
      ·rw[u]
       refine hk id b ?_ (by rw[←u'];exact hb)
       rcases hid with ⟨f,hf,hid⟩ |hid
       ·exact .inl ⟨f,List.mem_cons_of_mem _ hf,hid⟩
       ·exact .inr (Nat.le_trans pn hid))
     refine⟨k2,?_,fun id=>?_⟩
     ·simp only[gq,bz,e1,e2,g3,g4]
     ·rcases u2 id with ⟨u,hid⟩ | ⟨u,u'⟩
      ·refine .inl ⟨u,?_⟩
       rcases hid with ⟨f,hf,hid⟩ | ⟨h3,h4⟩
       ·exact .inl ⟨f,List.mem_cons_of_mem _ hf,hid⟩
       ·exact .inr ⟨Nat.le_trans pn h3,h4⟩
      ·rcases u1 id with ⟨v,hid⟩ | ⟨v,v'⟩
       ·refine .inl ⟨by rw[u,v,u'],?_⟩
        rcases hid with hid | ⟨h3,h4⟩
        ·exact .inl ⟨_,List.mem_cons_self,hid⟩
        ·exact .inr ⟨h3,Nat.lt_of_lt_of_le h4 g1⟩
       ·exact .inr ⟨by rw[u,v],by rw[u',v']⟩
theorem rZ (cL:eF ev) (ops:List Oper) (m:Tm):Loc lim (dV P O ev lim ops m):=by
 intro h n rd wr a s' e hl hw
 simp only[dV] at e
 cases hd:fY ops (aO (aM [] ops) ops.length) with
 |false=>simp[hd] at e
 |true=>
  simp only[hd,cond_true] at e
  cases hf:gq P O ev ops ops m h n with
  |fail w=>simp[bz,hf] at e
  |ok x s₁=>
   simp only[bz,hf] at e
   cases hk:cB x.2 (aO (aM [] ops) ops.length) with
   |false=>simp[hk] at e
   |true=>
    simp only[hk,cond_true] at e
    obtain⟨g1,g2,g3,g4,g5,g6⟩:=rY cL ops ops m h n x s₁ hf hw
    have key:∀ h₀:PT ak,∃ sF:HS,(cond (Nat.beq lim 0) (⟨h₀,s₁.next,rd,wr⟩:HS) (aK lim x.2 ⟨h₀,s₁.next,rd,wr⟩))=sF∧sF.heap=h₀∧sF.next=s₁.next∧
      (∀ y,y∈sF.rd↔(∃ f∈x.2,y∈f.rd∧y<lim)∨y∈rd)∧(∀ y,y∈sF.wr↔(∃ f∈x.2,y∈f.wr∧y<lim)∨y∈wr):=by
     intro h₀
     refine⟨_,rfl,?_⟩
     cases hz:Nat.beq lim 0 with
     |true=>
      have:=Nat.eq_of_beq_eq_true hz
      subst this
      simp
     |false=>
      obtain⟨m1,m2,m3,m4⟩:=kg (lim:=lim) x.2 ⟨h₀,s₁.next,rd,wr⟩
      exact⟨m1,m2,m3,m4⟩
    have same:∀ h₀ h₁:PT ak,(aK lim x.2 ⟨h₀,s₁.next,rd,wr⟩).rd=(aK lim x.2 ⟨h₁,s₁.next,rd,wr⟩).rd∧(aK lim x.2 ⟨h₀,s₁.next,rd,wr⟩).wr=(aK lim x.2 ⟨h₁,s₁.next,rd,wr⟩).wr:=by
     intro h₀ h₁
     have gen:∀ (fs:List bD) (r q:List Nat),(aK lim fs ⟨h₀,s₁.next,r,q⟩).rd=(aK lim fs ⟨h₁,s₁.next,r,q⟩).rd∧(aK lim fs ⟨h₀,s₁.next,r,q⟩).wr=(aK lim fs ⟨h₁,s₁.next,r,q⟩).wr:=by
      intro fs
      induction fs with
      |nil=>exact fun r q=>⟨rfl,rfl⟩
      |cons f fs ih=>exact fun r q=>ih _ _
     exact gen _ _ _
    obtain⟨sF,hs,k1,k2,k3,k4⟩:=key s₁.heap
    rw[hs] at e
    simp only[aS.ok.injEq] at e
    obtain⟨rfl,rfl⟩:=e
    refine⟨⟨by rw[k2];exact g1,fun y hy=>(k3 y).2 (.inr hy),fun y hy=>(k4 y).2 (.inr hy),fun y hy=>?_,fun y hy=>?_,by rw[k1,k2];exact g2⟩,fun h2 lq=>?_⟩
    ·rcases(k3 y).1 hy with ⟨f,_,_,hlt⟩ |hy
     ·exact .inr hlt
     ·exact .inl hy
    ·rcases(k4 y).1 hy with ⟨f,_,_,hlt⟩ |hy
     ·exact .inr hlt
     ·exact .inl hy
    ·obtain⟨h3,e3,u3⟩:=g6 h2 (fun id b hid hb=>lq id b (by
      rcases hid with ⟨f,hf,hid |hid⟩ |hid
      ·by_cases hlt:id<lim
       ·exact .inl ((k3 id).2 (.inl ⟨f,hf,hid,hlt⟩))
       ·exact .inr (.inr (by omega))
      ·by_cases hlt:id<lim
       ·exact .inr (.inl ((k4 id).2 (.inl ⟨f,hf,hid,hlt⟩)))
       ·exact .inr (.inr (by omega))
      ·exact .inr (.inr (by omega))) hb)
     obtain⟨sG,Es,j1,j2,j3,j4⟩:=key h3
     have hsame:sG=⟨h3,sF.next,sF.rd,sF.wr⟩:=by
      have q1:sG.rd=sF.rd:=by
       rw[←hs,←Es]
       cases Nat.beq lim 0
       ·exact(same h3 s₁.heap).1
       ·rfl
      have q2:sG.wr=sF.wr:=by
       rw[←hs,←Es]
       cases Nat.beq lim 0
       ·exact(same h3 s₁.heap).2
       ·rfl
      cases sG
      simp only at j1 j2 q1 q2
      subst j1 j2 q1 q2
      rw[k2]
     refine⟨h3,?_,fun id=>?_⟩
     ·simp only[dV,hd,cond_true,bz,e3,hk]
      rw[Es,hsame]
     ·rw[k1,k2]
      rcases u3 id with ⟨u,hid⟩ |hid
      ·refine .inl ⟨u,?_⟩
       rcases hid with ⟨f,hf,hid⟩ | ⟨h5,h6⟩
       ·by_cases hlt:id<lim
        ·exact .inl ((k4 id).2 (.inl ⟨f,hf,hid,hlt⟩))
        ·obtain⟨q1,q2,q3,q4,q5⟩:=g5 f hf
         have:=q4 id hid
         exact .inr ⟨by omega,by omega⟩
       ·exact .inr ⟨by omega,h6⟩
      ·exact .inr hid
theorem wU (cL:eF ev) (ro:Option Nat) (g:Operand) (ps:List Tmp) (assign body:Code) (m:Tm):Loc lim (dW P O ev ro lim g ps assign body m):=by
 unfold dW
 exact jq (bG (cm _) fun ld=>bG (cm _) fun fa=>bG (n_ cL _ _) fun _=>bG (K:=fun x s => .ok (x,{ m with gn:=ld.2 }) s) (cm _) fun x=>b7 _) (cH _)
theorem yS (cL:eF ev):eF (a_ P O ev):=by
 intro ro lim c m
 unfold a_
 cases c with
 |skip=>exact b7 _
 |region id ops draw=>exact bG (K:=fun m s => .ok (bp.normal,m) s) (jq (rZ cL _ _) (qB cL _ _ _)) fun m=>b7 _
 |seq a b=>
  refine bG (cL _ _ _ _) fun x=>?_
  cases x.1 with
  |normal=>exact cL _ _ _ _
  | _=>exact b7 _
 |cond c a b=>
  refine jq ?_ (cH _)
  split
  ·exact cL _ _ _ _
  ·exact cL _ _ _ _
  ·exact cH _
 |block id c=>
  refine bG (cL _ _ _ _) fun x=>?_
  cases x.1 with
  |exit=>exact b7 _
  | _=>exact b7 _
 |loop c=>
  refine bG (cL _ _ _ _) fun x=>?_
  cases x.1 with
  |normal=>exact cL _ _ _ _
  | _=>exact b7 _
 |rangeFunc g ps assign body=>exact wU cL _ _ _ _ _ _
 |exit id=>exact b7 _
 |scope c=>exact cL _ _ _ _
 |label l=>exact b7 _
 |goto l=>exact cH _
 |ret=>exact b7 _
 |refuse w=>exact cH _
theorem lI:∀ n,eF (jg P O n)
 |0=>fun ro lim c m=>cH _
 |n+1=>yS (lI n)
end
end Go.Am
