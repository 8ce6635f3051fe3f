/-
A part.
-/
import Derived.Test.YtofmbmclopgldaaGreatAmQ
import Derived.Test.YtofmbmclopgldaaGreatAmR
import Derived.RangeFuncLeaves
import Derived.LoopNIn
import Derived.OrdersIn
set_option linter.all false
namespace Go.Am
open Go.RowKit
def Fw(r:Option Nat):Fence:={ fn:=fun _=>True,depth:=none,alive:=false,round:=r }
inductive Rw (Γ:bL):List Nat→List Deferred→Prop
 |nil:Rw Γ [] []
 |cons (d r:Nat) (ds:List Nat) (ds':List Deferred) (h:Γ.blk d=some (r,0)) (t:Rw Γ ds ds'):Rw Γ (d::ds) ({ target := .collected r,args:=#[] }::ds')
theorem Rw.mono{Γ aY:bL}(h:Γ.le aY):∀ {ds:List Nat} {ds':List Deferred},Rw Γ ds ds'→Rw aY ds ds'
 | _,_,.nil => .nil
 | _,_,.cons d r _ _ e t => .cons d r _ _ (h.blk _ _ e) (t.mono h)
structure xj(Γ:bL)(m:Tm)(a:Act):Prop where
 tm:ij Γ m a.tmps
 df:Rw Γ m.fF a.defers
theorem xj.mono{Γ aY:bL}(h:Γ.le aY){m:Tm}{a:Act}(k:xj Γ m a):xj aY m a:=⟨k.tm.mono h,k.df.mono h⟩
inductive Rx (Γ:bL):Option Nat→Option Nat→Prop
 |no:Rx Γ none none
 |yes (l l':Nat) (h:Γ.blk l=some (l',0)):Rx Γ (some l) (some l')
theorem Rx.mono{Γ aY:bL}(h:Γ.le aY){a b:Option Nat}(k:Rx Γ a b):Rx aY a b:=by
 cases k with
 |no=>exact .no
 |yes l l' e=>exact .yes l l' (h.blk _ _ e)
def Ext(h H:PT aj):Prop:=∀ id b,h.get id=some b→H.get id=some b
def Keep(lim n':Nat)(wr:List Nat)(H H':PT aj):Prop:=∀ id b,H.get id=some b→H'.get id=some b∨id∈wr∨(lim≤id∧id<n')
structure Ex(Γ aY:bL)(lim:Nat)(s s':HS)(W:World)(H H':PT aj)(w':World):Prop where
 le:Γ.le aY
 rel:bK aY W H' w'
 out:∀ i,¬(s.next≤i∧i<s'.next)→aY.blk i=Γ.blk i
 sub:Ext s'.heap H'
 keep:Keep lim s'.next s'.wr H H'
 mono:s.next≤s'.next
 wrs:Sub s.wr s'.wr
theorem Ex.trans{Γ cW eP:bL}{lim:Nat}{s s₁ s₂:HS}{W:World}{H H₁ H₂:PT aj}{w₁ w₂:World}(a:Ex Γ cW lim s s₁ W H H₁ w₁)(b:Ex cW eP lim s₁ s₂ W H₁ H₂ w₂):Ex Γ eP lim s s₂ W H H₂ w₂:=by
 have h:=a.mono;have k:=b.mono;refine⟨a.le.trans b.le,b.rel,fun i hi=>by rw[b.out i qJ,a.out i qJ],b.sub,fun id c hc=>?_,Nat.le_trans h k,a.wrs.trans b.wrs⟩
 rcases a.keep id c hc with q |q |q
 ·exact b.keep id c q
 ·exact .inr (.inl (b.wrs id q))
 ·exact .inr (.inr ⟨q.1,by omega⟩)
def Free(Γ:bL)(n n':Nat):Prop:=∀ i,n≤i→i<n'→Γ.blk i=none
theorem Free.after{Γ cW:bL}{lim:Nat}{s s₁:HS}{n₂:Nat}{W:World}{H H₁:PT aj}{w₁:World}(a:Ex Γ cW lim s s₁ W H H₁ w₁)(f:Free Γ s.next n₂):Free cW s₁.next n₂:=
 fun i h1 h2=>by have:=a.mono;rw[a.out i qJ];exact f i qJ h2
theorem Free.sub{Γ:bL}{n n₁ n₂:Nat}(f:Free Γ n n₂)(h:n₁≤n₂):Free Γ n n₁:=fun i h1 h2=>f i h1 qJ
theorem Ex.refl{Γ:bL}{lim:Nat}{s:HS}{W:World}{H:PT aj}{w:World}(hS:bK Γ W H w)(hx:Ext s.heap H):Ex Γ Γ lim s s W H H w:=
 ⟨.refl _,hS,fun _ _=>rfl,hx,fun _ _ h => .inl h,Nat.le_refl _,.refl _⟩
def Bq:bp→Exit
 | .normal => .normal
 | .ret => .ret
 | .exit id => .exit id
def Wf(s:HS):Prop:=∀ id,s.next≤id→s.heap.get id=none
section
variable (P:Program)
def iY(ev:iL):Prop:=
 ∀ ro lim c m s x s',ev ro lim c m s = .ok x s'→lim≤s.next→Wf s→∀ Γ W w a r H,bK Γ W H w→Ext s.heap H→xj Γ m a→Rx Γ ro r→Free Γ s.next s'.next→
  ∀ Q:Exit→Act→World→Prop,(∀ aY w' a' H',Ex Γ aY lim s s' W H H' w'→xj aY x.2 a'→Q (Bq x.1) a' w')→c.wpIn (Fw r) 0 P Q a w
variable {P}
variable {Γ:bL} {W w:World}
theorem xl{lim:Nat}{α:Type}{F:HS→aO α}(hF:Loc lim F){s s':HS}{a:α}(e:F s = .ok a s')(hl:lim≤s.next)(hw:Wf s){H:PT aj}(hx:Ext s.heap H):
  ∃ H',F ⟨H,s.next,s.rd,s.wr⟩ = .ok a ⟨H',s'.next,s'.rd,s'.wr⟩∧Ext s'.heap H'∧Keep lim s'.next s'.wr H H'∧s.next≤s'.next∧Wf s'∧Sub s.wr s'.wr:=by
 obtain⟨p,q⟩:=hF s.heap s.next s.rd s.wr a s' e hl hw;obtain⟨H',e',u⟩:=q H fun id b _ hb=>hx id b hb;refine⟨H',e',fun id b hb=>?_,fun id b hb=>?_,p.next,p.wf,p.LQ⟩
 ·rcases u id with ⟨u,_⟩ | ⟨u,u'⟩
  ·rw[u];exact hb
  ·rw[u];exact hx id b (by rw[←u'];exact hb)
 ·rcases u id with ⟨_,u⟩ | ⟨u,_⟩
  ·exact .inr u
  ·exact .inl (by rw[u];exact hb)
theorem g_{lim:Nat}{α:Type}{F:HS→aO α}(hF:Loc lim F){s s':HS}{a:α}(e:F s = .ok a s')(hl:lim≤s.next)(hw:Wf s):s.next≤s'.next∧Wf s':=by
 obtain⟨p,_⟩:=hF s.heap s.next s.rd s.wr a s' e hl hw;exact⟨p.next,p.wf⟩
theorem qa{α β:Type}{R:bL→α→β→Prop}{m:AP α}{e:Sem β}{lim:Nat}{s s':HS}{x:α}{H:PT aj}(hm:iA P Γ m e R)(hr:m.run lim s = .ok x s')(hl:lim≤s.next)(hw:Wf s)
  (hS:bK Γ W H w) (hx:Ext s.heap H) (hf:Free Γ s.next s'.next):
  ∃ aY w' b H',e.run P w = .ok b w'∧Ex Γ aY lim s s' W H H' w'∧R aY x b:=by
 obtain⟨H',hr',h6,h7,h8,_,h9⟩:=xl (eZ m) hr hl hw hx;obtain⟨aY,w',b,h1,h2,h3,h4,h5⟩:=hm W H s.next w hS lim s.rd s.wr x _ hr' hf;exact⟨aY,w',b,H',h1,⟨h2,h3,h4,h6,h7,h8,h9⟩,h5⟩
theorem xm{m:Tm}{a:Act}(hm:ij Γ m a.tmps):∀ x,bz x=true→aD Γ (m.eval x) (a.eval x):=by
 intro x hx;cases x with
 |tmp t=>exact hm.get t
 |const v=>exact C_ 4 v hx
 |global g=>simp[bz] at hx
 |func f=>exact .func _ _ _ _ _ _ .nil .nil (.plain _ (fun _ e=>by cases e))
theorem xj.put{m m':Tm}{a:Act}{d:Option Nat}{v v':Value}(hm:xj Γ m a)(hv:aD Γ v v')(e:m.put d v=some m'):xj Γ m' (a.put d v'):=by
 cases d with
 |none=>
  simp only[Tm.put,Option.some.injEq] at e;subst e;exact hm
 |some i=>
  obtain⟨h1,h2⟩:=hm.tm.put hv e;exact⟨h1,by rw[h2];exact hm.df⟩
theorem Sy{t:TypeId}{x x':Value}{lim:Nat}{s s':HS}{v:Value}(hx:aD Γ x x')(hS:bK Γ W s.heap w)(hr:(fG P t x).run lim s = .ok v s'):
  s'.heap=s.heap∧s'.next=s.next∧∃ v',(do loadVar t (←asAddr x'):Sem Value).run P w = .ok v' w∧aD Γ v v':=by
 unfold fG at hr;split at hr
 ·rename_i a i d hi hd;cases hx with
  |ptr _ a' ha=>
   simp only[AP.run] at hr;split at hr
   ·simp at hr
   ·rename_i B hB;have hs:∀ b:Bool,(cond b { s with rd:=ins a.block s.rd } s).heap=s.heap∧(cond b { s with rd:=ins a.block s.rd } s).next=s.next:=fun b=>by cases b<;>exact⟨rfl,rfl⟩
    cases B with
    |cells c ro=>
     dsimp only at hr;cases tL:isAgg d with
     |true=>
      simp only[tL,cond_true] at hr;split at hr
      ·rename_i l hl;simp only[AP.run,aO.ok.injEq] at hr;obtain⟨rfl,rfl⟩:=hr;obtain⟨l',hl',hrl⟩:=jG (P:=P) hS hB ha rfl hl;exact⟨(hs _).1,(hs _).2,.agg ⟨l'⟩,by simp[asAddr,loadVar,pZ hd,tL,bS hi,hrl],.agg _ _ hl'⟩
      ·simp[AP.run] at hr
     |false=>
      simp only[tL,cond_false] at hr;split at hr
      ·rename_i u hu;simp only[AP.run,aO.ok.injEq] at hr;obtain⟨rfl,rfl⟩:=hr;obtain⟨v',e,r⟩:=hS.Me hB hu ha rfl;exact⟨(hs _).1,(hs _).2,v',by simp[asAddr,loadVar,pZ hd,tL,e],r⟩
      ·simp[AP.run] at hr
    | _=>simp[AP.run] at hr
 ·simp[AP.run] at hr
def kB(tmps:Array Value):ResultVar→Sem Value
 | .tmp t=>pure (tmps.getD t undef)
 | .cell a t=>do loadVar t (←asAddr (tmps.getD a undef))
theorem results_at{m:Tm}{tmps:Array Value}(hm:ij Γ m tmps){lim:Nat}:∀ (rs:List ResultVar) (s:HS) (l:List Value) (s':HS),bK Γ W s.heap w→cD P lim m rs s = .ok l s'→
  s'.heap=s.heap∧s'.next=s.next∧∃ l',(rs.mapM (kB tmps)).run P w = .ok l' w∧aM Γ l l'
 | [],s,l,s',hS,e=>by
  simp only[cD,aO.ok.injEq] at e;obtain⟨rfl,rfl⟩:=e;exact⟨rfl,rfl,[],by simp,.nil⟩
 | .tmp t::r,s,l,s',hS,e=>by
  simp only[cD,bP] at e;split at e
  ·rename_i l₁ s₁ h₁;simp only[aO.ok.injEq] at e;obtain⟨rfl,rfl⟩:=e;obtain⟨g1,g2,l',g3,g4⟩:=results_at hm r s l₁ s₁ hS h₁;exact⟨g1,g2,tmps.getD t undef::l',by simp[List.mapM_cons,kB,g3],.cons _ _ _ _ (hm.get t) g4⟩
  ·simp at e
 | .cell a t::r,s,l,s',hS,e=>by
  simp only[cD,bP] at e;split at e
  ·rename_i v s₁ h₁;obtain⟨k1,k2,v',k3,k4⟩:=Sy (hm.get a) hS h₁;split at e
   ·rename_i l₂ s₂ h₂;simp only[aO.ok.injEq] at e;obtain⟨rfl,rfl⟩:=e;obtain⟨g1,g2,l',g3,g4⟩:=results_at hm r s₁ l₂ s₂ (by rw[k1];exact hS) h₂;refine⟨g1.trans k1,g2.trans k2,v'::l',?_,.cons _ _ _ _ k4 g4⟩;simp only[List.mapM_cons,kB,Sem.run_bind] at k3 ⊢;simp only[Sem.run_bind,k3,Result.andThen_ok,g3,Sem.run_pure]
   ·simp at e
  ·simp at e
theorem Dv{fn:Func}{tmps:Array Value}{l':List Value}(h:(fn.results.toList.mapM (kB tmps)).run P w = .ok l' w){l:List Value}(hl:aM Γ l l'):
  ∃ v',(results fn tmps).run P w = .ok v' w∧aD Γ (oneOf l) v':=by
 have sv:(fn.results.mapM (kB tmps)).run P w = .ok ⟨l'⟩ w:=by
  rw[Array.mapM_eq_mapM_toList];simp[h]
 have apb:(fun x=>match x with
  |ResultVar.tmp t=>(pure (tmps.getD t undef):Sem Value)
  | .cell a t=>do loadVar t (←asAddr (tmps.getD a undef)))=kB tmps:=by
  funext x;cases x<;>rfl
 have hrun:(results fn tmps).run P w = .ok (if h:(⟨l'⟩:Array Value).size=1 then (⟨l'⟩:Array Value)[0] else .tuple ⟨l'⟩) w:=by
  unfold results;rw[Sem.run_bind]
  show Result.andThen ((fn.results.mapM (fun x=>match x with
   |ResultVar.tmp t=>(pure (tmps.getD t undef):Sem Value)
   | .cell a t=>do loadVar t (←asAddr (tmps.getD a undef)))).run P w) _=_
  rw[apb,sv];rfl
 refine⟨_,hrun,?_⟩;cases hl with
 |nil=>exact .tuple _ _ .nil
 |cons v v' l l' hv ht=>
  cases ht with
  |nil=>exact hv
  |cons v2 v2' l2 l2' Sz ht2=>
   have: ¬ (⟨v'::v2'::l2'⟩:Array Value).size=1:=by simp
   rw[dif_neg this];exact .tuple _ _ (.cons _ _ _ _ hv (.cons _ _ _ _ Sz ht2))
theorem bK.Gm{h:PT aj}(hS:bK Γ W h w){r:Nat}{o o':Obj}(iI:W.heap.size≤r)(hold:w.heap[r]? = some o')(ho':d_ o'=true)(ho:d_ o=true)
  (hfree:∀ j B b s,h.get j=some B→Γ.blk j=some (b,s)→b≠r):bK Γ W h { w with heap:=w.heap.setIfInBounds r o }:=by
 have hne:∀ k,k≠r→(w.heap.setIfInBounds r o)[k]? = w.heap[k]? := fun k hk=>by rw[Array.getElem?_setIfInBounds_ne (Ne.symm hk)]
 have hsame:(w.heap.setIfInBounds r o)[r]? = some o:=by simp[dZ hold]
 have hnf:∀ a,World.frozen? { w with heap:=w.heap.setIfInBounds r o } a=w.frozen? a:=by
  intro a;by_cases ha:a.block=r
  ·cases o<;>cases o'<;>first | (simp[d_] at ho;done) | (simp[d_] at ho';done)|simp only[World.frozen?,ha,hsame,hold]
  ·simp only[World.frozen?,hne _ ha]
 refine⟨hS.below.trans ⟨rfl,rfl,rfl,by simp,fun k hk=>hne k qJ⟩,fun a ha=>(hnf a).trans (hS.fz a ha),?_,hS.ng,?_,?_,hS.fin,hS.rows⟩
 ·intro j B hj;obtain⟨b,s,e,hB,hw⟩:=hS.live j B hj;exact⟨b,s,e,hB.world (hne b (hfree j B b s hj e)),hw⟩
 ·intro j b s e
  simpa using hS.dom j b s e
 ·intro b k hb;obtain⟨c,el,fz,h2,h3⟩:=hS.jo b k hb;have:b≠r:=fun e=>by rw[e,hold] at h2;simp at h2;rw[h2] at ho';simp[d_] at ho'
  exact⟨c,el,fz,(hne b this).trans h2,h3⟩
theorem zW{fn:Func}{tmps:Array Value}{m:Tm}{R:Ending→World→Prop}{lim:Nat}:∀ (ds:List Nat) (ds':List Deferred) (s s₁ s':HS) (l:List Value) (w:World),ij Γ m tmps→Rw Γ ds ds'→
  bK Γ W s.heap w→fB lim ds s = .ok () s₁→cD P lim m fn.results.toList s₁ = .ok l s'→
  s'.next=s.next∧((∀ w' v',bK Γ W s'.heap w'→aD Γ (oneOf l) v'→R (.returned v') w')→LeavesInM Fence.wide 0 P fn tmps R ds' .returning w)
 | [],ds',s,s₁,s',l,w,hm,hd,hS,e₁,e₂=>by
  cases hd;simp only[fB,aO.ok.injEq] at e₁;obtain⟨_,rfl⟩:=e₁;obtain⟨g1,g2,l',g3,g4⟩:=results_at hm _ s l s' hS e₂;refine⟨g2,fun hR=>?_⟩;obtain⟨v',hrun,hv⟩:=Dv g3 g4;exact⟨v',hrun,hR w v' (by rw[g1];exact hS) hv⟩
 |d::ds,ds',s,s₁,s',l,w,hm,hd,hS,e₁,e₂=>by
  cases hd with
  |cons _ r _ ds' hb ht=>
   simp only[fB,bP] at e₁;cases hk:(pX d).run lim s with
   |fail q=>simp[hk] at e₁
   |ok u s₂=>
    simp only[hk] at e₁;have X9:s₂.heap=s.heap.set d none∧s₂.next=s.next∧s.heap.get d=some .deferred:=by
     unfold pX at hk;simp only[AP.run] at hk;cases hg:s.heap.get d with
     |none=>simp[hg] at hk
     |some B=>
      simp only[hg] at hk;cases B with
      |deferred=>
       simp only[AP.run] at hk;have e1:∀ b:Bool,(cond b { s with rd:=ins d s.rd } s).heap=s.heap∧(cond b { s with rd:=ins d s.rd } s).next=s.next:=fun b=>by cases b<;>exact⟨rfl,rfl⟩
       rw[(e1 _).1,hg] at hk;simp only[aO.ok.injEq] at hk;obtain⟨_,rfl⟩:=hk;refine⟨?_,?_,rfl⟩
       ·cases Nat.blt d lim<;>simp
       ·cases Nat.blt d lim<;>simp
      | _=>simp[AP.run] at hk
    obtain⟨f1,f2,f3⟩:=X9;obtain⟨b,s0,hb',⟨_,acV⟩,iI⟩:=hS.live _ _ f3;rw[hb] at hb';obtain⟨rfl,_⟩:r=b∧0=s0:=by simpa using hb'
    have iI:=iI trivial;have Dw:bK Γ W s₂.heap { w with heap:=w.heap.setIfInBounds r (.deferred none) }:=by
     rw[f1];refine(hS.kill d).Gm iI acV rfl rfl fun j B b s hj hjb=>?_;rw[PT.bC] at hj;by_cases hjd:j=d
     ·rw[if_pos hjd] at hj;simp at hj
     ·rw[if_neg hjd] at hj;exact Ne.symm (hS.ng _ _ _ _ _ _ _ _ (Ne.symm hjd) f3 hj hb hjb trivial)
    obtain⟨g1,g2⟩:=zW ds ds' s₂ s₁ s' l _ hm ht Dw e₁ e₂;refine⟨g1.trans f2,fun hR=>⟨by simp,.inl ⟨r,_,rfl,?_,g2 hR⟩⟩⟩;simp[Instr.takeDeferred,getObj,setObj,Sem.run,acV]
end
end Go.Am
