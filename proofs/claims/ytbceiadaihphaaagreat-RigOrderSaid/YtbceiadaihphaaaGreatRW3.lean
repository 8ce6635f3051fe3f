/-
  A part of the proof: contracts of inner functions.
-/
import Derived.Test.YtbceiadaihphaaaGreatRV5
set_option linter.unusedVariables false
set_option linter.unusedSimpArgs false
namespace Go.Proofs.YtbceiadaihphaaaGreat
open Go.Am
variable {e:gT}
structure RS (e:gT) where
 s:e.σ
 idx:Nat→Nat
 pc:Nat→Nat
 bg:Nat→Bool
 val:Nat→Nat
 n:Nat
 ev:List (Nat×Nat×Nat×Nat)
abbrev Ops:=Nat→List (Nat×Nat)
def RS.ct (ops:Ops) (xp:Nat) (r:RS e) (k:Nat):RS e:=match (ops k)[r.idx k]? with
 |none=>{ r with pc:=fs r.pc k 0 }
 |some (kd,v)=>
  if kd=1∧v<64∧e.bB r.s k=false then { r with s:=e.enter r.s k v,val:=fs r.val k v,pc:=fs r.pc k 0 }
  else if kd=2∧v=0∧e.bB r.s k=true then { r with pc:=fs r.pc k xp }
  else if kd=3∧v≠0∧e.bB r.s k=false then { r with s:=e.wait r.s k v,bg:=fs r.bg k false,pc:=fs r.pc k 0 }
  else { r with pc:=fs r.pc k 1 }
def RS.next (ops:Ops) (xp:Nat) (r:RS e) (k:Nat):RS e:=RS.ct ops xp { r with idx:=fs r.idx k (r.idx k+1) } k
def RS.setOf (ops:Ops) (r:RS e) (k:Nat):Nat:=match (ops k)[r.idx k]? with
 |none=>0
 |some (_,v)=>v
def RS.step (ops:Ops) (xp:Nat) (r:RS e) (k:Nat):RS e:=
 if e.br r.s k=true then
  (if e.br (e.aP r.s k) k=true then { r with s:=e.aP r.s k } else RS.next ops xp { r with s:=e.aP r.s k,ev:=r.ev++[(r.n,k,1,r.val k)] } k)
 else if e.wt r.s k=true then
  (if e.wt (e.aQ r.s k) k=true then { r with s:=e.aQ r.s k,bg:=fs r.bg k true,ev:=if r.bg k=true then r.ev else r.ev++[(r.n,k,3,r.setOf ops k)] }
   else RS.next ops xp { r with s:=e.aQ r.s k,bg:=fs r.bg k true,ev:=(if r.bg k=true then r.ev else r.ev++[(r.n,k,3,r.setOf ops k)])++[(r.n,k,4,r.setOf ops k)] } k)
 else if r.pc k=1 then RS.next ops xp r k
 else RS.next ops xp { r with s:=e.exit r.s k,ev:=r.ev++[(r.n,k,2,r.val k)] } k
def RS.d_ (r:RS e) (k:Nat):Prop:=e.br r.s k=true∨e.wt r.s k=true∨r.pc k≠0
def RS.up (r:RS e):RS e:={ r with n:=r.n+1 }
inductive At (ops:Ops) (xp:Nat) (r:RS e) (k:Nat):Prop where
 |over (h:(ops k)[r.idx k]? = none) (h1:e.br r.s k=false) (h2:e.wt r.s k=false) (h3:r.pc k=0)
 |br (v:Nat) (h:(ops k)[r.idx k]? = some (1,v)) (hv:v<64) (h1:e.br r.s k=true) (h2:e.wt r.s k=false) (h3:r.pc k=0) (h4:r.val k=v)
 |wait (v:Nat) (h:(ops k)[r.idx k]? = some (3,v)) (hv:v≠0) (h1:e.br r.s k=false) (h2:e.wt r.s k=true) (h3:r.pc k=0)
 |exit (h:(ops k)[r.idx k]? = some (2,0)) (h1:e.br r.s k=false) (h2:e.wt r.s k=false) (h3:r.pc k=xp) (h4:e.bB r.s k=true)
 |refuse (o:Nat×Nat) (h:(ops k)[r.idx k]? = some o) (h1:e.br r.s k=false) (h2:e.wt r.s k=false) (h3:r.pc k=1)
structure gQ (ops:Ops) (xp:Nat) (aO:e.σ→Nat→Nat→Prop) (fresh:e.σ→Nat→Nat→Prop) (ns:Nat) (r:RS e):Prop where
 one:One e r.s
 at_:∀ k,k<ns→At ops xp r k
 val:∀ k,e.br r.s k=true∨e.bB r.s k=true→r.val k<64∧aO r.s k (r.val k)
 fr:∀ k v,k<ns→e.wt r.s k=true→(ops k)[r.idx k]? = some (3,v)→r.bg k=false→fresh r.s k v
 fits:∀ k,k<ns→r.idx k≤(ops k).length
theorem At.of {ops:Ops} {xp:Nat} {r r':RS e} {k:Nat} (a:At ops xp r k) (hi:r'.idx k=r.idx k) (h1:e.br r'.s k=e.br r.s k) (h2:e.wt r'.s k=e.wt r.s k) (h3:e.bB r'.s k=e.bB r.s k) (h4:r'.pc k=r.pc k) (h5:r'.val k=r.val k):At ops xp r' k:=by
 cases a with
 |over a b c d=>exact .over (by rw[hi];exact a) (h1.trans b) (h2.trans c) (h4.trans d)
 |br v a b c d f g=>exact .br v (by rw[hi];exact a) b (h1.trans c) (h2.trans d) (h4.trans f) (h5.trans g)
 |wait v a b c d f=>exact .wait v (by rw[hi];exact a) b (h1.trans c) (h2.trans d) (h4.trans f)
 |exit a b c d f=>exact .exit (by rw[hi];exact a) (h1.trans b) (h2.trans c) (h4.trans d) (h3.trans f)
 |refuse o a b c d=>exact .refuse o (by rw[hi];exact a) (h1.trans b) (h2.trans c) (h4.trans d)
section
variable {ops:Ops} {xp ns:Nat} {aO:e.σ→Nat→Nat→Prop} {guard:e.σ→Nat→Nat→Prop} {fresh:e.σ→Nat→Nat→Prop}
structure u_ (ops:Ops) (xp:Nat) (aO:e.σ→Nat→Nat→Prop) (fresh:e.σ→Nat→Nat→Prop) (ns:Nat) (r:RS e) (k:Nat):Prop where
 one:One e r.s
 at_:∀ u,u<ns→u≠k→At ops xp r u
 idle:e.br r.s k=false∧e.wt r.s k=false
 val:∀ k,e.br r.s k=true∨e.bB r.s k=true→r.val k<64∧aO r.s k (r.val k)
 fr:∀ u v,u<ns→u≠k→e.wt r.s u=true→(ops u)[r.idx u]? = some (3,v)→r.bg u=false→fresh r.s u v
 fits:∀ u,u<ns→r.idx u≤(ops u).length
theorem u_.ct {ng:Nat} (G:e.fq ng aO guard) (Fr:e.gC ng aO guard fresh) {r:RS e} {k:Nat} (p:u_ ops xp aO fresh ns r k):gQ ops xp aO fresh ns (RS.ct ops xp r k)∧(RS.ct ops xp r k).idx=r.idx∧(RS.ct ops xp r k).n=r.n∧(RS.ct ops xp r k).ev=r.ev∧∀ u,e.bB (RS.ct ops xp r k).s u=e.bB r.s u:=by
 obtain⟨one,at_,⟨i1,i2⟩,val,fr,fits⟩:=p
 unfold RS.ct
 cases ho:(ops k)[r.idx k]? with
 |none=>
  refine⟨⟨one,fun u hu=>?_,val,fun u v hu hw hq hb=>?_,fits⟩,rfl,rfl,rfl,fun _=>rfl⟩
  ·by_cases c:u=k
   ·subst c;exact .over ho i1 i2 aA
   ·exact(at_ u hu c).of rfl rfl rfl rfl (az c) rfl
  ·by_cases c:u=k
   ·subst c
    have hw':e.wt r.s u=true:=hw
    rw[i2] at hw';simp at hw'
   ·exact fr u v hu c hw hq hb
 |some o=>
  obtain⟨kd,v⟩:=o
  simp only
  by_cases c1:kd=1∧v<64∧e.bB r.s k=false
  ·rw[if_pos c1]
   obtain⟨rfl,hv,hi⟩:=c1
   obtain⟨f1,f2,f3⟩:=G.fits.enter r.s k v hi
   refine⟨⟨fun u=>?_,fun u hu=>?_,fun u hu=>?_,fun u w hu hw hq hb=>?_,fits⟩,rfl,rfl,rfl,f2⟩
   ·show (e.br (e.enter r.s k v) u=true→e.bB (e.enter r.s k v) u=false∧e.wt (e.enter r.s k v) u=false)∧(e.bB (e.enter r.s k v) u=true→e.wt (e.enter r.s k v) u=false)
    rw[f1,f2,f3]
    by_cases c:u=k
    ·subst c;rw[hi,i2];simp
    ·rw[if_neg c];exact one u
   ·by_cases c:u=k
    ·subst c
     exact .br v ho hv ((f1 u).trans (if_pos rfl)) ((f3 u).trans i2) aA aA
    ·exact(at_ u hu c).of rfl ((f1 u).trans (if_neg c)) (f3 u) (f2 u) (az c) (az c)
   ·show fs r.val k v u<64∧aO (e.enter r.s k v) u (fs r.val k v u)
    by_cases c:u=k
    ·subst c;rw[aA];exact⟨hv,G.Mg _ _ _⟩
    ·rw[az c]
     have zS:e.br (e.enter r.s k v) u=true∨e.bB (e.enter r.s k v) u=true:=hu
     rw[f1,f2,if_neg c] at zS
     exact⟨(val u zS).1,G.IB _ _ _ _ _ c (val u zS).2⟩
   ·have hw':e.wt (e.enter r.s k v) u=true:=hw
    rw[f3] at hw'
    have c:u≠k:=fun q=>by subst q;rw[i2] at hw';simp at hw'
    exact Fr.enter _ _ _ _ _ (fr u w hu c hw' hq hb)
  ·rw[if_neg c1]
   by_cases c2:kd=2∧v=0∧e.bB r.s k=true
   ·rw[if_pos c2]
    obtain⟨rfl,rfl,hi⟩:=c2
    refine⟨⟨one,fun u hu=>?_,val,fun u v hu hw hq hb=>?_,fits⟩,rfl,rfl,rfl,fun _=>rfl⟩
    ·by_cases c:u=k
     ·subst c;exact .exit ho i1 i2 aA hi
     ·exact(at_ u hu c).of rfl rfl rfl rfl (az c) rfl
    ·by_cases c:u=k
     ·subst c
      have hw':e.wt r.s u=true:=hw
      rw[i2] at hw';simp at hw'
     ·exact fr u v hu c hw hq hb
   ·rw[if_neg c2]
    by_cases c3:kd=3∧v≠0∧e.bB r.s k=false
    ·rw[if_pos c3]
     obtain⟨rfl,hv,hi⟩:=c3
     obtain⟨f1,f2,f3⟩:=G.fits.wait r.s k v
     refine⟨⟨fun u=>?_,fun u hu=>?_,fun u hu=>?_,fun u w hu hw hq hb=>?_,fits⟩,rfl,rfl,rfl,f2⟩
     ·show (e.br (e.wait r.s k v) u=true→e.bB (e.wait r.s k v) u=false∧e.wt (e.wait r.s k v) u=false)∧(e.bB (e.wait r.s k v) u=true→e.wt (e.wait r.s k v) u=false)
      rw[f1,f2,f3]
      by_cases c:u=k
      ·subst c;rw[hi,i1];simp
      ·rw[if_neg c];exact one u
     ·by_cases c:u=k
      ·subst c
       exact .wait v ho hv ((f1 u).trans i1) ((f3 u).trans (if_pos rfl)) aA
      ·exact(at_ u hu c).of rfl (f1 u) ((f3 u).trans (if_neg c)) (f2 u) (az c) rfl
     ·have zS:e.br (e.wait r.s k v) u=true∨e.bB (e.wait r.s k v) u=true:=hu
      rw[f1,f2] at zS
      exact⟨(val u zS).1,G.RH _ _ _ _ _ (val u zS).2⟩
     ·by_cases c:u=k
      ·subst c
       have KA:(ops u)[r.idx u]? = some (3,w):=hq
       rw[ho] at KA
       obtain⟨-,rfl⟩:=Prod.mk.inj (Option.some.inj KA)
       exact Fr.ct _ _ _
      ·have hw':e.wt (e.wait r.s k v) u=true:=hw
       rw[f3,if_neg c] at hw'
       have hb':fs r.bg k false u=false:=hb
       rw[az c] at hb'
       exact Fr.wait _ _ _ _ _ c (fr u w hu c hw' hq hb')
    ·rw[if_neg c3]
     refine⟨⟨one,fun u hu=>?_,val,fun u v hu hw hq hb=>?_,fits⟩,rfl,rfl,rfl,fun _=>rfl⟩
     ·by_cases c:u=k
      ·subst c;exact .refuse _ ho i1 i2 aA
      ·exact(at_ u hu c).of rfl rfl rfl rfl (az c) rfl
     ·by_cases c:u=k
      ·subst c
       have hw':e.wt r.s u=true:=hw
       rw[i2] at hw';simp at hw'
      ·exact fr u v hu c hw hq hb
end
end Go.Proofs.YtbceiadaihphaaaGreat
namespace Go.Proofs.YtbceiadaihphaaaGreat
open Go.Am
variable {e:gT} {ops:Ops} {xp ns:Nat} {aO:e.σ→Nat→Nat→Prop} {guard:e.σ→Nat→Nat→Prop} {fresh:e.σ→Nat→Nat→Prop}
theorem jY {l:List (Nat×Nat)} {i:Nat} {o:Nat×Nat} (h:l[i]? = some o):i+1≤l.length:=(List.getElem?_eq_some_iff.1 h).1
theorem gQ.pre (G:e.fq ns aO guard) {r:RS e} {k:Nat} (I:gQ ops xp aO fresh ns r) (hk:k<ns) {s':e.σ} {ev':List (Nat×Nat×Nat×Nat)} {Mu:Nat→Bool} {o:Nat×Nat} (ho:(ops k)[r.idx k]? = some o)
  (h1:∀ u,u≠k→e.br s' u=e.br r.s u∧e.wt s' u=e.wt r.s u∧e.bB s' u=e.bB r.s u) (he:e.br s' k=false) (hw:e.wt s' k=false) (hv:∀ u,e.bB s' u=true→r.val u<64∧aO s' u (r.val u)) (GM:∀ u,u≠k→e.br s' u=true→aO s' u (r.val u)) (hf:∀ u v,u≠k→fresh r.s u v→fresh s' u v) (hb:∀ u,u≠k→Mu u=r.bg u):
  u_ ops xp aO fresh ns ({ r with s:=s',ev:=ev',bg:=Mu,idx:=fs r.idx k (r.idx k+1) }:RS e) k:=by
 refine⟨fun u=>?_,fun u hu c=>?_,⟨he,hw⟩,fun u hu=>?_,fun u v hu c hwu hq hbu=>?_,fun u hu=>?_⟩
 ·by_cases c:u=k
  ·subst c
   exact⟨fun q=>by rw[show e.br s' u=false from he] at q;simp at q,fun _=>hw⟩
  ·obtain⟨a1,a2,a3⟩:=h1 u c
   have o:=I.one u
   rw[←a1,←a2,←a3] at o
   exact o
 ·obtain⟨a1,a2,a3⟩:=h1 u c
  exact(I.at_ u hu).of (az c) a1 a2 a3 rfl rfl
 ·rcases hu with hu |hu
  ·by_cases c:u=k
   ·subst c
    rw[show e.br s' u=false from he] at hu;simp at hu
   ·have zS:e.br s' u=true:=hu
    have:=I.val u (.inl (by rw[←(h1 u c).1];exact zS))
    exact⟨this.1,GM u c zS⟩
  ·exact hv u hu
 ·have Zb:e.wt s' u=true:=hwu
  have KA:(ops u)[fs r.idx k (r.idx k+1) u]? = some (3,v):=hq
  rw[az c] at KA
  have Zc:Mu u=false:=hbu
  exact hf u v c (I.fr u v hu (by rw[←(h1 u c).2.1];exact Zb) KA (by rw[←hb u c];exact Zc))
 ·show fs r.idx k (r.idx k+1) u≤_
  by_cases c:u=k
  ·subst c;rw[aA];exact jY ho
  ·rw[az c];exact I.fits u hu
theorem gQ.step (G:e.fq ns aO guard) (Fr:e.gC ns aO guard fresh) {r:RS e} {k:Nat} (I:gQ ops xp aO fresh ns r) (hk:k<ns) (hx:xp≠0∧xp≠1) (ha:r.d_ k):gQ ops xp aO fresh ns (RS.step ops xp r k):=by
 have inx:∀ t,e.br r.s t=true→e.bB r.s t=false:=fun t h=>((I.one t).1 h).1
 unfold RS.step
 cases I.at_ k hk with
 |over h h1 h2 h3=>
  rcases ha with q |q |q
  ·rw[h1] at q;simp at q
  ·rw[h2] at q;simp at q
  ·exact absurd h3 q
 |br v h hv h1 h2 h3 h4=>
  rw[if_pos h1]
  obtain⟨f1,f2,f3⟩:=G.fits.aP r.s k h1 (inx k h1)
  have vv:∀ u,e.bB (e.aP r.s k) u=true→r.val u<64∧aO (e.aP r.s k) u (r.val u):=fun u hu=>by
   rw[f2] at hu
   have:=I.val u (by
    by_cases c:u=k
    ·subst c;exact .inl h1
    ·rw[if_neg c] at hu;exact .inr hu)
   exact⟨this.1,G.wX _ _ _ _ this.2⟩
  cases hd:e.br (e.aP r.s k) k with
  |true=>
   rw[if_pos rfl]
   refine⟨fun u=>?_,fun u hu=>?_,fun u hu=>?_,fun u w hu hw hq hb=>?_,I.fits⟩
   ·show (e.br (e.aP r.s k) u=true→e.bB (e.aP r.s k) u=false∧e.wt (e.aP r.s k) u=false)∧(e.bB (e.aP r.s k) u=true→e.wt (e.aP r.s k) u=false)
    rw[f2,f3]
    by_cases c:u=k
    ·subst c;rw[if_pos rfl,hd,h2];simp
    ·rw[if_neg c,f1 u c];exact I.one u
   ·by_cases c:u=k
    ·subst c;exact .br v h hv hd ((f3 u).trans h2) h3 h4
    ·exact(I.at_ u hu).of rfl (f1 u c) (f3 u) ((f2 u).trans (if_neg c)) rfl rfl
   ·rcases hu with hu |hu
    ·by_cases c:u=k
     ·subst c
      have:=I.val u (.inl h1)
      exact⟨this.1,G.wX _ _ _ _ this.2⟩
     ·have zS:e.br (e.aP r.s k) u=true:=hu
      have:=I.val u (.inl (by rw[←f1 u c];exact zS))
      exact⟨this.1,G.wX _ _ _ _ this.2⟩
    ·exact vv u hu
   ·have hw':e.wt (e.aP r.s k) u=true:=hw
    rw[f3] at hw'
    exact Fr.aP _ _ _ _ (I.fr u w hu hw' hq hb)
  |false=>
   rw[if_neg (by simp)]
   exact(u_.ct G Fr (I.pre (s':=e.aP r.s k) (ev':=r.ev++[(r.n,k,1,r.val k)]) (Mu:=r.bg) G hk h (fun u c=>⟨f1 u c,f3 u,(f2 u).trans (if_neg c)⟩) hd ((f3 k).trans h2) vv (fun u c hu=>by
    have:=I.val u (.inl (by rw[←f1 u c];exact hu))
    exact G.wX _ _ _ _ this.2) (fun u v c hf=>Fr.aP _ _ _ _ hf) (fun _ _=>rfl))).1
 |wait v h hv h1 h2 h3=>
  rw[if_neg (by rw[h1];simp),if_pos h2]
  obtain⟨f1,f2,f3⟩:=G.fits.aQ r.s k
  have vv:∀ u,e.br (e.aQ r.s k) u=true∨e.bB (e.aQ r.s k) u=true→r.val u<64∧aO (e.aQ r.s k) u (r.val u):=fun u hu=>by
   rw[f1,f2] at hu
   have:=I.val u hu
   exact⟨this.1,G.Mh _ _ _ _ this.2⟩
  cases hd:e.wt (e.aQ r.s k) k with
  |true=>
   rw[if_pos rfl]
   refine⟨fun u=>?_,fun u hu=>?_,vv,fun u w hu hw hq hb=>?_,I.fits⟩
   ·show (e.br (e.aQ r.s k) u=true→e.bB (e.aQ r.s k) u=false∧e.wt (e.aQ r.s k) u=false)∧(e.bB (e.aQ r.s k) u=true→e.wt (e.aQ r.s k) u=false)
    rw[f1,f2]
    by_cases c:u=k
    ·subst c
     have o:=I.one u
     rw[h2] at o
     exact⟨fun q=>by have:=(o.1 q).2;simp at this,fun q=>by have:=o.2 q;simp at this⟩
    ·rw[f3 u c];exact I.one u
   ·by_cases c:u=k
    ·subst c;exact .wait v h hv ((f1 u).trans h1) hd h3
    ·exact(I.at_ u hu).of rfl (f1 u) (f3 u c) (f2 u) rfl rfl
   ·have hb':fs r.bg k true u=false:=hb
    have c:u≠k:=fun q=>by subst q;rw[aA] at hb';simp at hb'
    rw[az c] at hb'
    have hw':e.wt (e.aQ r.s k) u=true:=hw
    rw[f3 u c] at hw'
    exact Fr.aQ _ _ _ _ c (I.fr u w hu hw' hq hb')
  |false=>
   rw[if_neg (by simp)]
   exact(u_.ct G Fr (I.pre (s':=e.aQ r.s k) (Mu:=fs r.bg k true) G hk h (fun u c=>⟨f1 u,f3 u c,f2 u⟩) ((f1 k).trans h1) hd (fun u hu=>vv u (.inr hu)) (fun u c hu=>(vv u (.inl hu)).2) (fun u v c hf=>Fr.aQ _ _ _ _ c hf) (fun u c=>az c))).1
 |exit h h1 h2 h3 h4=>
  rw[if_neg (by rw[h1];simp),if_neg (by rw[h2];simp),if_neg (by rw[h3];exact hx.2)]
  obtain⟨f1,f2,f3⟩:=G.fits.exit r.s k h4
  have vv:∀ u,u≠k→e.br (e.exit r.s k) u=true∨e.bB (e.exit r.s k) u=true→r.val u<64∧aO (e.exit r.s k) u (r.val u):=fun u c hu=>by
   rw[f1,f2,if_neg c] at hu
   have:=I.val u hu
   exact⟨this.1,G.RG _ _ _ _ c this.2⟩
  exact(u_.ct G Fr (I.pre (s':=e.exit r.s k) (ev':=r.ev++[(r.n,k,2,r.val k)]) (Mu:=r.bg) G hk h (fun u c=>⟨f1 u,f3 u,(f2 u).trans (if_neg c)⟩) ((f1 k).trans h1) ((f3 k).trans h2) (fun u hu=>by
   have c:u≠k:=fun q=>by subst q;rw[f2,if_pos rfl] at hu;simp at hu
   exact vv u c (.inr hu)) (fun u c hu=>(vv u c (.inl hu)).2) (fun u v c hf=>Fr.exit _ _ _ _ hf) (fun _ _=>rfl))).1
 |refuse o h h1 h2 h3=>
  rw[if_neg (by rw[h1];simp),if_neg (by rw[h2];simp),if_pos h3]
  exact(u_.ct G Fr (I.pre (s':=r.s) (ev':=r.ev) (Mu:=r.bg) G hk h (fun u c=>⟨rfl,rfl,rfl⟩) h1 h2 (fun u hu=>I.val u (.inr hu)) (fun u c hu=>(I.val u (.inl hu)).2) (fun u v c hf=>hf) (fun _ _=>rfl))).1
end Go.Proofs.YtbceiadaihphaaaGreat
namespace Go.Proofs.YtbceiadaihphaaaGreat
open Go.Am
variable {e:gT} {ops:Ops} {xp ns:Nat} {aO:e.σ→Nat→Nat→Prop} {guard:e.σ→Nat→Nat→Prop} {fresh:e.σ→Nat→Nat→Prop}
structure RR (P:e.σ→Prop) (k:Nat):Prop where
 enter:∀ s v,P s→e.bB s k=false→P (e.enter s k v)
 aP:∀ s,P s→e.br s k=true→e.bB s k=false→P (e.aP s k)
 exit:∀ s,P s→e.bB s k=true→P (e.exit s k)
 wait:∀ s v,P s→P (e.wait s k v)
 aQ:∀ s,P s→e.wt s k=true→P (e.aQ s k)
theorem RR.ct {P:e.σ→Prop} {k:Nat} (c:RR P k) {r:RS e} (h:P r.s):P (RS.ct ops xp r k).s:=by
 unfold RS.ct
 split
 ·exact h
 ·split
  ·rename_i q;exact c.enter _ _ h q.2.2
  ·split
   ·exact h
   ·split
    ·exact c.wait _ _ h
    ·exact h
theorem RR.step {P:e.σ→Prop} {k:Nat} (c:RR P k) {r:RS e} (I:gQ ops xp aO fresh ns r) (hk:k<ns) (hx:xp≠0∧xp≠1) (ha:r.d_ k) (h:P r.s):P (RS.step ops xp r k).s:=by
 unfold RS.step
 cases I.at_ k hk with
 |over h1 h2 h3 h4=>
  rcases ha with q |q |q
  ·rw[h2] at q;simp at q
  ·rw[h3] at q;simp at q
  ·exact absurd h4 q
 |br v h1 hv h2 h3 h4 h5=>
  rw[if_pos h2]
  have hp:=c.aP _ h h2 ((I.one k).1 h2).1
  split
  ·exact hp
  ·exact c.ct hp
 |wait v h1 hv h2 h3 h4=>
  rw[if_neg (by rw[h2];simp),if_pos h3]
  have hp:=c.aQ _ h h3
  split
  ·exact hp
  ·exact c.ct hp
 |exit h1 h2 h3 h4 h5=>
  rw[if_neg (by rw[h2];simp),if_neg (by rw[h3];simp),if_neg (by rw[h4];exact hx.2)]
  exact c.ct (c.exit _ h h5)
 |refuse o h1 h2 h3 h4=>
  rw[if_neg (by rw[h2];simp),if_neg (by rw[h3];simp),if_pos h4]
  exact c.ct h
theorem IV {r:RS e} {k u:Nat} (c:u≠k):(RS.ct ops xp r k).idx u=r.idx u∧(RS.ct ops xp r k).pc u=r.pc u∧(RS.ct ops xp r k).bg u=r.bg u∧(RS.ct ops xp r k).val u=r.val u:=by
 unfold RS.ct
 split
 ·exact⟨rfl,az c,rfl,rfl⟩
 ·split
  ·exact⟨rfl,az c,rfl,az c⟩
  ·split
   ·exact⟨rfl,az c,rfl,rfl⟩
   ·split
    ·exact⟨rfl,az c,az c,rfl⟩
    ·exact⟨rfl,az c,rfl,rfl⟩
theorem xd {r:RS e} {k u:Nat} (c:u≠k):(RS.step ops xp r k).idx u=r.idx u∧(RS.step ops xp r k).bg u=r.bg u:=by
 have nx:∀ q:RS e,q.idx=r.idx→q.bg u=r.bg u→(RS.next ops xp q k).idx u=r.idx u∧(RS.next ops xp q k).bg u=r.bg u:=fun q h1 h2=>by
  unfold RS.next
  obtain⟨a1,a2,a3,a4⟩:=IV (ops:=ops) (xp:=xp) (r:={ q with idx:=fs q.idx k (q.idx k+1) }) c
  refine⟨a1.trans ((az c).trans (by rw[h1])),a3.trans h2⟩
 unfold RS.step
 split
 ·split
  ·exact⟨rfl,rfl⟩
  ·exact nx _ rfl rfl
 ·split
  ·split
   ·exact⟨rfl,az c⟩
   ·exact nx _ rfl (az c)
  ·split
   ·exact nx _ rfl rfl
   ·exact nx _ rfl rfl
structure SB (ops:Ops) (xp:Nat) (aO:e.σ→Nat→Nat→Prop) (guard:e.σ→Nat→Nat→Prop) (fresh:e.σ→Nat→Nat→Prop) (r:RS e):Prop where
 inv:gQ ops xp aO fresh 3 r
 idx:r.idx 1=0
 wt:e.wt r.s 1=true
 gd:guard r.s 1 0
 bB:e.bB r.s 0=true
def PB (guard:e.σ→Nat→Nat→Prop) (s:e.σ):Prop:=e.wt s 1=true∧guard s 1 0∧e.bB s 0=true
theorem Zd (G:e.fq 3 aO guard) {k:Nat} (h0:k≠0) (h1:k≠1):RR (PB (e:=e) guard) k:=by
 refine⟨fun s v p hi=>?_,fun s p he hi=>?_,fun s p hi=>?_,fun s v p=>?_,fun s p hw=>?_⟩
 ·obtain⟨f1,f2,f3⟩:=G.fits.enter s k v hi
  exact⟨(f3 1).trans p.1,G.E0 _ _ _ _ _ p.1 p.2.1 p.2.2 h0.symm,(f2 0).trans p.2.2⟩
 ·obtain⟨f1,f2,f3⟩:=G.fits.aP s k he hi
  exact⟨(f3 1).trans p.1,G.E1 _ _ _ _ p.1 p.2.1 p.2.2 h0.symm,((f2 0).trans (if_neg h0.symm)).trans p.2.2⟩
 ·obtain⟨f1,f2,f3⟩:=G.fits.exit s k hi
  exact⟨(f3 1).trans p.1,G.Kf _ _ _ _ p.1 p.2.1 p.2.2 h0.symm,((f2 0).trans (if_neg h0.symm)).trans p.2.2⟩
 ·obtain⟨f1,f2,f3⟩:=G.fits.wait s k v
  exact⟨((f3 1).trans (if_neg h1.symm)).trans p.1,G.Kg _ _ _ _ _ p.1 p.2.1 p.2.2 h1.symm,(f2 0).trans p.2.2⟩
 ·obtain⟨f1,f2,f3⟩:=G.fits.aQ s k
  exact⟨(f3 1 h1.symm).trans p.1,G.zj _ _ _ _ p.1 p.2.1 p.2.2 (by omega) hw h1.symm,(f2 0).trans p.2.2⟩
theorem SB.step (G:e.fq 3 aO guard) (Fr:e.gC 3 aO guard fresh) {r:RS e} (b:SB ops xp aO guard fresh r) {k:Nat} (hk:k<3) (h0:k≠0) (hx:xp≠0∧xp≠1) (ha:r.d_ k):SB ops xp aO guard fresh (RS.step ops xp r k):=by
 have I':=b.inv.step G Fr hk hx ha
 by_cases h1:k=1
 ·subst h1
  have hv:=b.inv.val 0 (.inr b.bB)
  obtain⟨l1,l2⟩:=G.Kh r.s 1 0 (r.val 0) b.wt b.gd b.bB (by omega) hv.2 hv.1
  have he:e.br r.s 1=false:=by
   cases h:e.br r.s 1 with
   |false=>rfl
   |true=>have:=((b.inv.one 1).1 h).2;rw[b.wt] at this;simp at this
  have eq:RS.step ops xp r 1={ r with s:=e.aQ r.s 1,bg:=fs r.bg 1 true,ev:=if r.bg 1=true then r.ev else r.ev++[(r.n,1,3,r.setOf ops 1)] }:=by
   unfold RS.step
   rw[if_neg (by rw[he];simp),if_pos b.wt,if_pos l1]
  rw[eq] at I' ⊢
  exact⟨I',b.idx,l1,l2,((G.fits.aQ r.s 1).2.1 0).trans b.bB⟩
 ·have p:=(Zd G h0 h1).step b.inv hk hx ha ⟨b.wt,b.gd,b.bB⟩
  exact⟨I',(xd (Ne.symm h1)).1.trans b.idx,p.1,p.2.1,p.2.2⟩
structure SA (ops:Ops) (xp:Nat) (aO:e.σ→Nat→Nat→Prop) (fresh:e.σ→Nat→Nat→Prop) (me:e.σ→Nat→Nat) (v set:Nat) (r:RS e) (m:Nat):Prop where
 inv:gQ ops xp aO fresh 3 r
 idx:r.idx 1=0∧r.idx 0=0
 wt:e.wt r.s 1=true
 fr:fresh r.s 1 set
 br:e.br r.s 0=true
 val:r.val 0=v
 RT:me r.s 0≤m
theorem SA.step (G:e.fq 3 aO guard) (Fr:e.gC 3 aO guard fresh) {me:e.σ→Nat→Nat} (hme:∀ s t,e.br s t=true→0<me s t∧(e.br (e.aP s t) t=true→me (e.aP s t) t<me s t)) {r:RS e} {v set m:Nat} (a:SA ops xp aO fresh me v set r m) (hv:v<64) (hs:set<2^64) (hb:set.testBit v=true) (hx:xp≠0∧xp≠1):
  0<m∧r.d_ 0∧(SA ops xp aO fresh me v set (RS.step ops xp r 0) (m-1)∨((RS.step ops xp r 0).idx 0=1∧SB ops xp aO guard fresh (RS.step ops xp r 0))):=by
 obtain⟨m1,m2⟩:=hme r.s 0 a.br
 have hs0:=a.RT
 have ha:r.d_ 0 := .inl a.br
 refine⟨by omega,ha,?_⟩
 have I':=a.inv.step G Fr (by omega) hx ha
 have hin:=((a.inv.one 0).1 a.br).1
 obtain⟨f1,f2,f3⟩:=G.fits.aP r.s 0 a.br hin
 have o:=xd (ops:=ops) (xp:=xp) (r:=r) (k:=0) (u:=1) (by omega)
 cases hd:e.br (e.aP r.s 0) 0 with
 |true=>
  left
  have eq:RS.step ops xp r 0={ r with s:=e.aP r.s 0 }:=by unfold RS.step;rw[if_pos a.br,if_pos hd]
  rw[eq] at I' ⊢
  have:=m2 hd
  exact⟨I',a.idx,(f3 1).trans a.wt,Fr.aP _ _ _ _ a.fr,hd,a.val,by show me (e.aP r.s 0) 0≤m-1;omega⟩
 |false=>
  right
  have eq:RS.step ops xp r 0=RS.next ops xp { r with s:=e.aP r.s 0,ev:=r.ev++[(r.n,0,1,r.val 0)] } 0:=by unfold RS.step;rw[if_pos a.br,if_neg (by rw[hd];simp)]
  have IW:e.bB (e.aP r.s 0) 0=true:=by rw[f2,if_pos rfl,hd];rfl
  have hh:aO (e.aP r.s 0) 0 v:=by
   have:=(a.inv.val 0 (.inl a.br)).2
   rw[a.val] at this
   exact G.wX _ _ _ _ this
  have g0:guard (e.aP r.s 0) 1 0:=Fr.guard _ 1 set 0 v (Fr.aP _ _ _ _ a.fr) IW hd (by omega) hh hv hs hb
  have P:∀ s:e.σ,PB (e:=e) guard s→e.br s 0=false→PB (e:=e) guard (RS.ct ops xp ({ r with s:=s,ev:=r.ev++[(r.n,0,1,r.val 0)],idx:=fs r.idx 0 (r.idx 0+1) }:RS e) 0).s:=fun s p hp=>by
   unfold RS.ct
   split
   ·exact p
   ·split
    ·rename_i q;have p2:=p.2.2;rw[show e.bB s 0=false from q.2.2] at p2;simp at p2
    ·split
     ·exact p
     ·split
      ·rename_i q;have p2:=p.2.2;rw[show e.bB s 0=false from q.2.2] at p2;simp at p2
      ·exact p
  have p:=P _ ⟨(f3 1).trans a.wt,g0,IW⟩ hd
  have hidx:(RS.step ops xp r 0).idx 0=1:=by
   rw[eq]
   unfold RS.next RS.ct
   have h1:fs r.idx 0 (r.idx 0+1) 0=1:=by rw[aA,a.idx.2]
   split
   ·exact h1
   ·split
    ·exact h1
    ·split
     ·exact h1
     ·split<;>exact h1
  refine⟨hidx,I',o.1.trans a.idx.1,?_,?_,?_⟩
  ·rw[eq];exact p.1
  ·rw[eq];exact p.2.1
  ·rw[eq];exact p.2.2
end Go.Proofs.YtbceiadaihphaaaGreat
