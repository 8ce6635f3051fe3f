/-
A part.
-/
import Derived.Test.YtofmbmclopgldaaGreatSOA
set_option linter.all false
set_option maxRecDepth 100000
set_option maxHeartbeats 16000000
namespace Go.Proofs.YtofmbmclopgldaaGreat
open Go.Am
def nL(E:Ev)(k:Nat)(X:List Int):List Int:=X.filter fun t=>decide ((k:Int)<hgt E.l t)
structure Form(E:Ev)(s:Sd)(X:Int→List Int):Prop where
 len:s.W.length=E.sz
 kl:s.K.length=E.l.H.length+1
 path:∀ v,0≤v→v<E.V→∀ k:Nat,k<6→Path E.l s.W k (-1-v) (nL E k (X v))
 yt:∀ v,0≤v→v<E.V→(X v).Pairwise fun t u=>uB E s.W t<uB E s.W u
 on:∀ v,0≤v→v<E.V→∀ t∈X v,ux E.l t∧s.K.getD t.toNat 0=2∧E.val (uB E s.W t)=v
section
variable {E:Ev} {s s':Sd} {X:Int→List Int} {W:List Int} {v key t:Int}
theorem eL{k:Nat}{L:List Int}:t∈nL E k L↔t∈L∧(k:Int)<hgt E.l t:=by unfold nL;simp
theorem gM{k:Nat}{A B:List Int}:nL E k (A++B)=nL E k A++nL E k B:=List.filter_append ..
theorem X5{k:Nat}{B:List Int}(h:(k:Int)<hgt E.l t):nL E k (t::B)=t::nL E k B:=List.filter_cons_of_pos (by simpa using h)
theorem ady(ok:tF E){L:List Int}(h:∀ t∈L,ux E.l t):nL E 0 L=L:=List.filter_eq_self.2 fun t ht=>by have:=(ok.num.vh (h t ht)).2.2.2.1;simp;omega
theorem acv{L:List Int}(h:L.Pairwise fun t u=>uB E W t<uB E W u):L.Nodup:=List.nodup_iff_pairwise_ne.2 (h.imp fun q e=>by rw[e] at q;omega)
theorem Form.nodup(F:Form E s X)(h0:0≤v)(h1:v<E.V)(k:Nat):(nL E k (X v)).Nodup:=(acv (F.yt v h0 h1)).sublist List.filter_sublist
theorem Form.wE(ok:tF E)(F:Form E s X)(h0:0≤v)(h1:v<E.V){k:Nat}(hk:k<6):Go.Proofs.YtofmbmclopgldaaGreat.wE E.l s.W v k=nL E k (X v):=
 aaU ok.num F.len ⟨by omega,by omega⟩ ⟨h0,h1⟩ (F.path v h0 h1 k hk) (F.nodup h0 h1 k)
theorem I1(h0:0≤v)(h1:v<E.V){k:Nat}(hk:k<6):Nd E.l E.V (-1-v) k:=⟨by omega,.inl ⟨by omega,by omega,by omega⟩⟩
theorem Form.nd(F:Form E s X)(h0:0≤v)(h1:v<E.V){k:Nat}(h:t∈nL E k (X v)):Nd E.l E.V t k:=⟨by omega,.inr ⟨(F.on v h0 h1 t (eL.1 h).1).1,(eL.1 h).2⟩⟩
theorem Form.frame(F:Form E s X)(hl:s'.W.length=s.W.length)(hK:s'.K.length=s.K.length)(hn:∀ (r:Int) (k:Nat),Nd E.l E.V r k→(r<0∨∃ v,0≤v∧v<E.V∧r∈X v)→vm s'.W (na E.l r k)=vm s.W (na E.l r k))
  (hk:∀ v,0≤v→v<E.V→∀ t∈X v,uB E s'.W t=uB E s.W t∧s'.K.getD t.toNat 0=s.K.getD t.toNat 0):Form E s' X:=by
 refine⟨hl.trans F.len,hK.trans F.kl,fun v h0 h1 k hk6=>(F.path v h0 h1 k hk6).frame fun t ht=>?_,fun v h0 h1=>?_,fun v h0 h1 t ht=>?_⟩
 ·rcases ht with rfl |ht
  ·exact hn _ k (I1 h0 h1 hk6) (.inl qJ)
  ·exact hn _ k (F.nd h0 h1 ht) (.inr ⟨v,h0,h1,(eL.1 ht).1⟩)
 ·exact(F.yt v h0 h1).imp_of_mem fun {a b} ha hb q=>by rw[(hk v h0 h1 a ha).1,(hk v h0 h1 b hb).1];exact q
 ·obtain⟨a,b,c⟩:=F.on v h0 h1 t ht;obtain⟨e1,e2⟩:=hk v h0 h1 t ht;exact⟨a,by rw[e2];exact b,by rw[e1];exact c⟩
theorem N21{W':List Int}(hl:W'.length=W.length){i:Nat}(h:W'[i]? = W[i]?):vm W' i=vm W i:=by
 unfold vm;rw[hl];split
 ·simp only[List.getD,Int.toNat_natCast];rw[h]
 ·rfl
theorem getD_set_ne{L:List Int}{i j:Nat}{x d:Int}(h:i≠j):(L.set i x).getD j d=L.getD j d:=by simp only[List.getD];rw[List.getElem?_set_ne h]
theorem tF.above(ok:tF E):(∀ r (k:Int),Nd E.l E.V r k→E.p6≤na E.l r k)∧∀ t,ux E.l t→E.p6≤ta E.l t:=by
 have e6:=ok.e6;have p7:=ok.num.p7';have p8:=ok.num.p8;have V1:=ok.num.V1;exact⟨fun r k h=>by have:=(ok.num.naR h).1;omega,fun t h=>by have:=(ok.num.vh h).1;omega⟩
theorem Form.take(ok:tF E)(F:Form E s X){x:Int}{t:Nat}(h:Tk E s x t s'):Form E s' X:=by
 obtain⟨a1,a2⟩:=ok.above;have kd:=h.kinds;refine F.frame h.len ?_ (fun r k q _=>N21 h.len (h.words _ (.inr (a1 r k q)))) fun v h0 h1 u hu=>⟨N21 h.len (h.words _ (.inr (a2 u (F.on v h0 h1 u hu).1))),?_⟩
 ·rw[kd];split<;>simp
 ·rw[kd];split
  ·rfl
  ·rename_i ht;refine getD_set_ne fun e=>?_;have h2:=(F.on v h0 h1 u hu).2.1
   rcases h.vh with q | ⟨-,-,-,q⟩
   ·exact ht q
   ·rw[←e,q] at h2;omega
theorem Form.out(F:Form E s X){t:Nat}(hK:s.K.getD t 0=1)(h0:0≤v)(h1:v<E.V):(t:Int)∉X v:=fun q=>by
 have:=(F.on v h0 h1 _ q).2.1;rw[Int.toNat_natCast] at this;omega
theorem Form.wr(ok:tF E)(F:Form E s X){t:Nat}(ht:ux E.l t)(hK:s.K.getD t 0=1){th val st:Int}:Form E (s.wr E th t key val st) X∧uB E (s.wr E th t key val st).W t=key:=by
 have tw:=ok.num.vh ht;have hW:(s.wr E th t key val st).W=((s.W.set (ta E.l t+0) key).set (ta E.l t+1) val).set (ta E.l t+4) st:=rfl;have w:∀ j:Int,vm (s.wr E th t key val st).W j=if j=(ta E.l t+4:Nat) then st else if j=(ta E.l t+1:Nat) then val else if j=(ta E.l t+0:Nat) then key else vm s.W j:=fun j=>by
  rw[hW,nM _ (by simp only[List.length_set];have:=F.len;omega),nM _ (by simp only[List.length_set];have:=F.len;omega),nM _ (by have:=F.len;omega)]
 refine⟨F.frame (by rw[hW];simp) rfl (fun r k q _=>?_) fun v h0 h1 u hu=>⟨?_,rfl⟩,?_⟩
 ·have n4:=ok.num.naW (w:=4) q ht qi;have n1:=ok.num.naW (w:=1) q ht qi;have n0:=ok.num.naW (w:=0) q ht qi;rw[w,if_neg qJ,if_neg qJ,if_neg qJ]
 ·have hu1:=(F.on v h0 h1 u hu).1;have hne:(t:Int)≠u:=fun e=>F.out hK h0 h1 (by rw[e];exact hu);have tu:=ok.num.vh hu1;have ap:∀ x:Nat,(x:Int)<5+hgt E.l t→ta E.l u+0≠ta E.l t+x:=fun x hx e=>hne (ok.num.apart (w:=0) (x:=x) hu1 ht qJ hx e).1.symm;have n4:=ap 4 qJ;have n1:=ap 1 qJ;have n0:=ap 0 qJ;unfold uB;rw[w,if_neg qJ,if_neg qJ,if_neg qJ]
 ·unfold uB;rw[w,if_neg qJ,if_neg qJ,if_pos qJ]
theorem N14{P Q:List Int}(hP:∀ u∈P,uB E W u<key)(hQ:∀ u∈Q,¬uB E W u<key):LA E W v key (P++Q)=P.getLastD (-1-v):=by
 unfold LA;generalize -1-v=r
 induction P generalizing r with
 |nil=>
  simp only[List.nil_append,List.getLastD_nil]
  induction Q generalizing r with
  |nil=>rfl
  |cons q Q ih=>rw[List.foldl_cons,if_neg (hQ q (by simp))];exact ih (fun u hu=>hQ u (by simp[hu])) r
 |cons p P ih=>rw[List.cons_append,List.foldl_cons,if_pos (hP p (by simp)),List.getLastD_cons];exact ih (fun u hu=>hP u (by simp[hu])) p
theorem N12{P:List Int}{r:Int}:P.getLastD r=r∨P.getLastD r∈P:=by
 cases P with
 |nil=>exact .inl rfl
 |cons a P=>
  right;rw[List.getLastD_eq_getLast?,List.getLast?_eq_some_getLast (by simp)];exact List.getLast_mem _
theorem aaY(ok:tF E)(F:Form E s X)(h0:0≤v)(h1:v<E.V){A B:List Int}(hX:X v=A++B)(hA:∀ u∈A,uB E s.W u<key)(hB:∀ u∈B,¬uB E s.W u<key){t:Nat}(ht:ux E.l t)(hK:s.K.getD t 0=1):∀ m:Nat,(m:Int)≤hgt E.l t→
  (s.E6 E v key t m).W.length=E.sz∧(∀ u,ux E.l u→uB E (s.E6 E v key t m).W u=uB E s.W u)∧∀ v',0≤v'→v'<E.V→∀ k:Nat,k<6→Path E.l (s.E6 E v key t m).W k (-1-v') (nL E k (if v'=v∧k<m then A++(t:Int)::B else X v'))
 |0,_=>⟨F.len,fun _ _=>rfl,fun v' g0 g1 k hk=>by rw[if_neg qJ];exact F.path v' g0 g1 k hk⟩
 |m+1,hm=>by
  obtain⟨l2,k2,p2⟩:=aaY ok F h0 h1 hX hA hB ht hK m qJ;have tw:=ok.num.vh ht;rw[Sd.E6];generalize s.E6 E v key t m=s2 at*;have hout:∀ v',0≤v'→v'<E.V→(t:Int)∉X v':=fun v' g0 g1=>F.out hK g0 g1;have hp:=p2 v h0 h1 m qJ;rw[if_neg qJ,hX,gM] at hp;have hm6:m<6:=by omega
  have hl:wE E.l s2.W v m=nL E m A++nL E m B:=aaU ok.num l2 ⟨by omega,by omega⟩ ⟨h0,h1⟩ hp (by rw[←gM,←hX];exact F.nodup h0 h1 m);have N27:=fun u hu=>F.on v h0 h1 u (by rw[hX];exact hu);have hb:LA E s2.W v key (nL E m A++nL E m B)=(nL E m A).getLastD (-1-v):=
   N14 (fun u hu=>by rw[k2 u (N27 u (by simp[(eL.1 hu).1])).1];exact hA u (eL.1 hu).1) fun u hu=>by rw[k2 u (N27 u (by simp[(eL.1 hu).1])).1];exact hB u (eL.1 hu).1
  have hmt:(m:Int)<hgt E.l t:=by omega
  unfold Sd.ly;rw[hl,hb];have hr:(nL E m A).getLastD (-1-v) = -1-v∨(nL E m A).getLastD (-1-v)∈nL E m A:=N12;have JN:Nd E.l E.V ((nL E m A).getLastD (-1-v)) m:=by
   rcases hr with q |q
   ·rw[q];exact I1 h0 h1 hm6
   ·exact F.nd (v:=v) h0 h1 (by rw[hX,gM];exact List.mem_append_left _ q)
  have hdt:Nd E.l E.V t m:=⟨by omega,.inr ⟨ht,hmt⟩⟩;have put:=Path.put ok.num l2 (k:=(m:Int)) qJ ht hmt (A:=nL E m A) (B:=nL E m B) (I1 h0 h1 hm6) hp (by have:=ht.1;omega)
   (fun q=>hout v h0 h1 (by rw[hX];rw[←gM] at q;exact(eL.1 q).1)) (fun q=>by rw[←gM] at q;have:=(N27 _ (eL.1 q).1).1.1;omega) (by rw[←gM,←hX];exact F.nodup h0 h1 m)
  have l1:=(ok.num.naR JN).2;have l3:=(ok.num.naR hdt).2;have w:∀ j:Int,vm ((s2.W.set (na E.l t m) (vm s2.W (na E.l ((nL E m A).getLastD (-1-v)) m))).set (na E.l ((nL E m A).getLastD (-1-v)) m) t) j=if j=na E.l ((nL E m A).getLastD (-1-v)) m then (t:Int) else if j=na E.l t m then vm s2.W (na E.l ((nL E m A).getLastD (-1-v)) m) else vm s2.W j:=fun j=>by
   rw[nM _ (by rw[List.length_set];omega),nM _ qJ]
  refine⟨by simp only[Sd.st,List.length_set];exact l2,fun u hu=>?_,fun v' g0 g1 k hk=>?_⟩
  ·rw[←k2 u hu];have n1:=ok.num.naW (w:=0) JN hu qi;have n2:=ok.num.naW (w:=0) hdt hu qi;unfold uB;simp only[Sd.st];rw[w,if_neg qJ,if_neg qJ]
  ·simp only[Sd.st];by_cases e:v'=v∧k=m
   ·obtain⟨rfl,rfl⟩:=e;rw[if_pos ⟨rfl,Nat.lt_succ_self _⟩,gM,X5 hmt];exact put
   ·have hc:(v'=v∧k<m+1)↔(v'=v∧k<m):=by omega
    simp only[hc];refine(p2 v' g0 g1 k hk).frame fun u hu=>?_;have hdu:Nd E.l E.V u k∧(u = -1-v'∨(u=t∧v'=v∧k<m)∨u∈X v'):=by
     rcases hu with rfl |hu
     ·exact⟨I1 g0 g1 hk,.inl rfl⟩
     ·have q:=eL.1 hu;refine⟨⟨by omega,.inr ⟨?_,q.2⟩⟩,.inr ?_⟩
      ·exact((p2 v' g0 g1 k hk).mem u hu).1
      ·split at q
       ·rename_i c;obtain⟨rfl,c⟩:=c
        rcases List.mem_append.1 q.1 with z |z
        ·exact .inr (by rw[hX];simp[z])
        ·rcases List.mem_cons.1 z with z |z
         ·exact .inl ⟨z,rfl,c⟩
         ·exact .inr (by rw[hX];simp[z])
       ·exact .inr q.1
    obtain⟨hdu,hu⟩:=hdu;rw[w,if_neg fun q=>?_,if_neg fun q=>?_]
    rotate_left
    ·have z:=ok.num.I8 hdu JN (Int.ofNat_inj.1 q);have hkm:k=m:=by omega
     rcases hu with hu | ⟨hu,hv,hk2⟩ |hu
     ·rcases hr with hr |hr
      ·omega
      ·have:=(F.nd (v:=v) h0 h1 (by rw[hX,gM];exact List.mem_append_left _ hr)).2;have hT:=(N27 ((nL E m A).getLastD (-1-v)) (List.mem_append_left _ (eL.1 hr).1)).1.1;omega
     ·omega
     ·rcases hr with hr |hr
      ·have:=(F.on v' g0 g1 u hu).1.1;omega
      ·have e1:=(F.on v' g0 g1 u hu).2.2;have e2:=(N27 _ (List.mem_append_left _ (eL.1 hr).1)).2.2;rw[←z.1,e1] at e2;omega
    ·have z:=ok.num.I8 hdu hdt (Int.ofNat_inj.1 q)
     rcases hu with hu | ⟨hu,hv,hk2⟩ |hu
     ·have:=ht.1;omega
     ·omega
     ·exact hout v' g0 g1 (by rw[←z.1];exact hu)
theorem aah{L:List Int}(h:L.Pairwise fun t u=>uB E W t<uB E W u):∃ A B,L=A++B∧(∀ u∈A,uB E W u<key)∧∀ u∈B,¬uB E W u<key:=by
 induction L with
 |nil=>exact⟨[],[],rfl,by simp,by simp⟩
 |cons t L ih=>
  obtain⟨p,q⟩:=List.pairwise_cons.1 h;by_cases c:uB E W t<key
  ·obtain⟨A,B,rfl,hA,hB⟩:=ih q;refine⟨t::A,B,rfl,fun u hu=>?_,hB⟩
   rcases List.mem_cons.1 hu with rfl |hu
   ·exact c
   ·exact hA u hu
  ·refine⟨[],t::L,rfl,by simp,fun u hu=>?_⟩
   rcases List.mem_cons.1 hu with rfl |hu
   ·exact c
   ·have:=p u hu;omega
theorem Form.step(ok:tF E)(F:Form E s X){val x:Int}(hk:0≤key)(h:wH E s key val x s'):∃ X',Form E s' X'∧∀ v,(X' v).length≤(X v).length+1:=by
 cases h with
 |has h=>exact⟨X,F,fun _=>Nat.le_succ _⟩
 |none h k=>exact⟨X,F.take ok k,fun _=>Nat.le_succ _⟩
 | @laid s1 t h ht0 k=>
  obtain⟨h0,h1⟩:=Ev.AY ok hk;have F1:=F.take ok k;obtain h2 | ⟨g1,g2,g3,g4⟩:=k.vh
  ·exact absurd h2 ht0
  have hT:ux E.l t:=⟨by omega,by omega⟩;have hx:hgt E.l t=x:=by unfold hgt;rw[show ((t:Int)-1).toNat=t-1 by omega];exact g3
  have hK1:s1.K.getD t 0=1:=by rw[k.kinds,if_neg ht0];simp only[List.getD];rw[List.getElem?_set_self (by have:=F.kl;omega)];rfl
  obtain⟨F2,hkt⟩:=F1.wr ok (key:=key) (th:=0) (val:=val) (st:=1) hT hK1;have hno:∀ u∈X (E.val key),uB E (s1.wr E 0 t key val 1).W u≠key:=fun u hu e=>by
   have hl:=F.wE ok h0 h1 (k:=0) qi;rw[ady ok fun t ht=>(F.on _ h0 h1 t ht).1] at hl;unfold HN at h;rw[show ((0:Nat):Int)=0 from rfl] at hl;rw[hl,List.any_eq_false] at h;refine h u hu (decide_eq_true ?_);obtain⟨a1,a2⟩:=ok.above;have hu1:=(F.on _ h0 h1 u hu).1;have e1:uB E s1.W u=uB E s.W u:=N21 k.len (k.words _ (.inr (a2 u hu1)));have e2:uB E (s1.wr E 0 t key val 1).W u=uB E s1.W u:=by
    have tw:=ok.num.vh hT;have tu:=ok.num.vh hu1;have hne:(t:Int)≠u:=fun e=>F1.out hK1 h0 h1 (by rw[e];exact hu);have ap:∀ x:Nat,(x:Int)<5+hgt E.l t→ta E.l u+0≠ta E.l t+x:=fun x hx e=>hne (ok.num.apart (w:=0) (x:=x) hu1 hT qJ hx e).1.symm;have n4:=ap 4 qJ;have n1:=ap 1 qJ;have n0:=ap 0 qJ
    show vm (((s1.W.set (ta E.l t+0) key).set (ta E.l t+1) val).set (ta E.l t+4) 1) _=_
    rw[nM _ (by simp only[List.length_set];have:=F1.len;omega),nM _ (by simp only[List.length_set];have:=F1.len;omega),nM _ (by have:=F1.len;omega),if_neg qJ,if_neg qJ,if_neg qJ];rfl
   rw[←e1,←e2];exact e
  obtain⟨A,B,hX,hA,hB⟩:=aah (key:=key) (F2.yt _ h0 h1);have hK2:(s1.wr E 0 t key val 1).K.getD t 0=1:=hK1;obtain⟨l3,k3,p3⟩:=aaY ok F2 h0 h1 hX hA hB hT hK2 x.toNat (by have:=ok.num.vh hT;omega);have tw:=ok.num.vh hT;have hKK:=@Xt E (s1.wr E 0 t key val 1) (E.val key) key t x.toNat;refine⟨fun v'=>if v'=E.val key then A++(t:Int)::B else X v',⟨l3,?_,fun v' g0 g1 k hk6=>?_,fun v' g0 g1=>?_,fun v' g0 g1 u hu=>?_⟩,fun v'=>?_⟩
  rotate_right
  ·show (if v'=E.val key then A++(t:Int)::B else X v').length≤_
   split
   ·rename_i c;subst c;rw[hX];simp;omega
   ·exact Nat.le_succ _
  ·show ((Sd.E6 E (s1.wr E 0 t key val 1) (E.val key) key t x.toNat).K.set t 2).length=_
   rw[List.length_set,hKK];exact F2.kl
  ·have p:=p3 v' g0 g1 k hk6
   show Path E.l (Sd.E6 E (s1.wr E 0 t key val 1) (E.val key) key t x.toNat).W k (-1-v') (nL E k (if v'=E.val key then A++(t:Int)::B else X v'))
   by_cases c:v'=E.val key
   ·subst c;rw[if_pos rfl];by_cases c2:k<x.toNat
    ·rw[if_pos ⟨rfl,c2⟩] at p;exact p
    ·rw[if_neg qJ,hX] at p;have:nL E k (A++(t:Int)::B)=nL E k (A++B):=by
      rw[gM,gM];unfold nL;rw[List.filter_cons_of_neg (by simp;omega)]
     rw[this];exact p
   ·rw[if_neg c];rw[if_neg qJ] at p;exact p
  ·show List.Pairwise (fun t' u=>uB E (Sd.E6 E (s1.wr E 0 t key val 1) (E.val key) key t x.toNat).W t'<uB E (Sd.E6 E (s1.wr E 0 t key val 1) (E.val key) key t x.toNat).W u) (if v'=E.val key then A++(t:Int)::B else X v')
   by_cases c:v'=E.val key
   ·subst c;rw[if_pos rfl];have as2:=F2.yt _ h0 h1;have N27:=fun u hu=>F2.on _ h0 h1 u (by rw[hX];exact hu);rw[hX] at as2;obtain⟨q1,q2,q3⟩:=List.pairwise_append.1 as2;refine List.pairwise_append.2 ⟨?_,List.pairwise_cons.2 ⟨fun u hu=>?_,?_⟩,fun a ha b hb=>?_⟩
    ·exact q1.imp_of_mem fun {a b} ha hb q=>by rw[k3 a (N27 a (by simp[ha])).1,k3 b (N27 b (by simp[hb])).1];exact q
    ·rw[k3 _ hT,k3 u (N27 u (by simp[hu])).1,hkt];have:=hB u hu;have:=hno u (by rw[hX];simp[hu]);omega
    ·exact q2.imp_of_mem fun {a b} ha hb q=>by rw[k3 a (N27 a (by simp[ha])).1,k3 b (N27 b (by simp[hb])).1];exact q
    ·rcases List.mem_cons.1 hb with rfl |hb
     ·rw[k3 _ hT,k3 a (N27 a (by simp[ha])).1,hkt];exact hA a ha
     ·rw[k3 a (N27 a (by simp[ha])).1,k3 b (N27 b (by simp[hb])).1];exact q3 a ha b hb
   ·rw[if_neg c];exact(F2.yt v' g0 g1).imp_of_mem fun {a b} ha hb q=>by rw[k3 a (F2.on v' g0 g1 a ha).1,k3 b (F2.on v' g0 g1 b hb).1];exact q
  ·show ux E.l u∧((Sd.E6 E (s1.wr E 0 t key val 1) (E.val key) key t x.toNat).K.set t 2).getD u.toNat 0=2∧E.val (uB E (Sd.E6 E (s1.wr E 0 t key val 1) (E.val key) key t x.toNat).W u)=v'
   have hu:u∈if v'=E.val key then A++(t:Int)::B else X v':=hu
   have old:∀ u∈X v',ux E.l u∧((Sd.E6 E (s1.wr E 0 t key val 1) (E.val key) key t x.toNat).K.set t 2).getD u.toNat 0=2∧E.val (uB E (Sd.E6 E (s1.wr E 0 t key val 1) (E.val key) key t x.toNat).W u)=v':=fun u hu=>by
    obtain⟨b1,b2,b3⟩:=F2.on v' g0 g1 u hu;refine⟨b1,?_,by rw[k3 u b1];exact b3⟩;rw[hKK,getD_set_ne fun e=>?_]
    ·exact b2
    ·rw[←e,hK2] at b2;omega
   by_cases c:v'=E.val key
   ·subst c;rw[if_pos rfl] at hu
    rcases List.mem_append.1 hu with z |z
    ·exact old u (by rw[hX];simp[z])
    ·rcases List.mem_cons.1 z with rfl |z
     ·refine⟨hT,?_,by rw[k3 _ hT,hkt]⟩;rw[hKK,Int.toNat_natCast];simp only[List.getD];rw[List.getElem?_set_self (by have:=F2.kl;omega)];rfl
     ·exact old u (by rw[hX];simp[z])
   ·rw[if_neg c] at hu;exact old u hu
theorem Form.yL(ok:tF E)(hl:(Sd.yL E).W.length=E.sz):Form E (Sd.yL E) fun _=>[]:=by
 have hn:=ok.num;refine⟨hl,by simp[Sd.yL],fun v h0 h1 k hk=>?_,fun _ _ _ => .nil,fun _ _ _ t ht=>by simp at ht⟩;have hR:=hn.naR (I1 h0 h1 hk);have hlt:na E.l (-1-v) k<(Sd.yL E).W.length:=by rw[hl];exact hR.2
 show vm (pK E.l) (na E.l (-1-v) k)=0
 rw[iJ (W:=pK E.l) hlt];have i5:=hn.yL.p5;have i6:=hn.yL.p6;have p7':=hn.p7';have h9:=hn.p9;have:(pK E.l)[na E.l (-1-v) k]? = some 0:=by
  unfold pK;rw[EB qJ];unfold qK;rw[if_neg qJ,if_neg qJ]
 have e:=List.getElem?_eq_getElem (l:=pK E.l) hlt;rw[this] at e;exact(Option.some.inj e).symm
theorem Form.N34(ok:tF E){A:List (List Int)}(hA:kO ksL A){i:Nat}(hi:i≤A.length)(F:Form E s X)(h:Laid E A s i s'):∃ X',Form E s' X'∧∀ v,(X' v).length≤(X v).length+i:=by
 induction h with
 |zero=>exact⟨X,F,fun _=>Nat.le_refl _⟩
 | @succ i s1 s2 h e ih=>
  obtain⟨X1,F1,l1⟩:=ih qJ;obtain⟨-,-,-,v3,-⟩:=agE hA (show i<A.length by omega);obtain⟨X2,F2,l2⟩:=F1.step ok v3.1 e;exact⟨X2,F2,fun v=>by have:=l1 v;have:=l2 v;omega⟩
end
end Go.Proofs.YtofmbmclopgldaaGreat
namespace Go.Proofs.YtofmbmclopgldaaGreat
open Go.Am
def B6(E:Ev)(W:List Int)(key:Int):Nat→SS→SS
 |0,s=>s
 |n+1,s=>B6 E W key n (s.step E key (vm W (s.ad E)))
theorem X6{E:Ev}{W:List Int}{key:Int}:∀ {n:Nat} {s:SS},B6 E W key (n+1) s=(B6 E W key n s).step E key (vm W ((B6 E W key n s).ad E))
 |0,s=>rfl
 |n+1,s=>by rw[B6,X6 (n:=n)];rfl
section
variable {E:Ev} {s:Sd} {X:Int→List Int} {W:List Int} {v key t:Int} {A B:List Int}
theorem Path.skip{k:Int}:∀ {P Q:List Int} {r:Int},Path E.l W k r (P++Q)→Path E.l W k (P.getLastD r) Q
 | [],Q,r,h=>h
 |a::P,Q,r,⟨_,_,_,h⟩=>by rw[List.getLastD_cons];exact Path.skip h
theorem Path.head{k:Int}{Q:List Int}{r:Int}(h:Path E.l W k r Q):vm W (na E.l r k)=Q.headD 0:=by
 cases Q with
 |nil=>exact h
 |cons a Q=>exact h.1
theorem abt{k:Nat}{P:List Int}{r:Int}(h:P≠[]→(k:Int)<hgt E.l (P.getLastD r)):(nL E k P).getLastD r=P.getLastD r:=by
 rcases List.eq_nil_or_concat P with rfl | ⟨P',a,rfl⟩
 ·rfl
 ·have q:=h (by simp);rw[List.concat_eq_append] at q ⊢;rw[List.getLastD_eq_getLast?,List.getLast?_concat,Option.getD_some] at q;rw[gM,X5 q];simp[nL,List.getLastD_eq_getLast?]
def tgt(E:Ev)(W:List Int)(key:Int)(B:List Int):Int:=if B≠[]∧uB E W (B.headD 0)=key then B.headD 0 else 0
structure SrI(E:Ev)(W:List Int)(v key:Int)(A B A1 A2:List Int)(s:SS):Prop where
 ok:rN E s
 eA:A=A1++A2
 nd:s.pc≠0→s.nd=A1.getLastD (-1-v)
 hg:s.pc≠0→A1≠[]→(s.lv:Int)<hgt E.l (A1.getLastD (-1-v))
 c:s.pc=22→s.c=(nL E s.lv A2++nL E s.lv B).headD 0∧nL E s.lv A2++nL E s.lv B≠[]
 done:∀ k:Nat,k<6→s.pc=0∨s.lv<k→s.bf[k]? = some ((nL E k A).getLastD (-1-v))∧s.af[k]? = some ((nL E k B).headD 0)
 fo:s.fo=if tgt E W key B≠0∧(s.pc=0∨(s.lv:Int)+1<hgt E.l (tgt E W key B)) then tgt E W key B else 0
def msr(s:SS)(A2:List Int):Nat:=if s.pc=0 then 0 else if s.pc=21 then 2*A2.length+2*(s.lv+1) else 2*A2.length+2*s.lv+1
def lft(s:SS):Nat:=if s.pc=0 then 0 else s.lv+1
theorem AA{L:List Int}(h:L≠[]):∃ a r,L=a::r∧L.headD 0=a:=by
 cases L with
 |nil=>exact absurd rfl h
 |cons a r=>exact⟨a,r,rfl,rfl⟩
theorem SrI.ends{A1 A2:List Int}{s:SS}{c fo:Int}(H:SrI E W v key A B A1 A2 s)(hp:s.pc≠0)(h2:nL E s.lv A2=[])(hc:c=(nL E s.lv B).headD 0)(hfo:fo=if tgt E W key B≠0∧(s.lv:Int)<hgt E.l (tgt E W key B) then tgt E W key B else 0)
  (EV:tgt E W key B≠0→1≤hgt E.l (tgt E W key B)):SrI E W v key A B A1 A2 (SS.ends ⟨s.pc,s.nd,s.lv,c,s.bf,s.af,fo⟩)∧msr (SS.ends ⟨s.pc,s.nd,s.lv,c,s.bf,s.af,fo⟩) A2≤2*A2.length+2*s.lv∧s.lv≤lft (SS.ends ⟨s.pc,s.nd,s.lv,c,s.bf,s.af,fo⟩):=by
 obtain⟨o,eA,nd,hg,FU,dn,hf⟩:=H;have hn:=nd hp;have hg':=hg hp;have hb:(nL E s.lv A).getLastD (-1-v)=s.nd:=by rw[eA,gM,h2,List.append_nil,hn];exact abt hg'
 have e1:(SS.ends ⟨s.pc,s.nd,s.lv,c,s.bf,s.af,fo⟩)=⟨if s.lv=0 then 0 else 21,s.nd,s.lv-1,c,s.bf.set s.lv s.nd,s.af.set s.lv c,fo⟩:=rfl;refine⟨⟨rN.ends o.lv o.bf o.af (o.nd hp),eA,fun _=>hn,fun _ hne=>?_,fun q=>?_,fun k hk q=>?_,?_⟩,?_,?_⟩
 ·have:=hg' hne
  show ((s.lv-1:Nat):Int)<_
  omega
 ·exfalso;have q':(if s.lv=0 then (0:Int) else 21)=22:=q;split at q'<;>omega
 ·show (s.bf.set s.lv s.nd)[k]? = _∧(s.af.set s.lv c)[k]? = _
  by_cases e:s.lv=k
  ·subst e;rw[List.getElem?_set_self (by rw[o.bf];exact o.lv),List.getElem?_set_self (by rw[o.af];exact o.lv),hb,hc];exact⟨rfl,rfl⟩
  ·rw[List.getElem?_set_ne e,List.getElem?_set_ne e];refine dn k hk (.inr ?_)
   rcases q with q |q
   ·have q':(if s.lv=0 then (0:Int) else 21)=0:=q;split at q'<;>omega
   ·have q':s.lv-1<k:=q;omega
 ·show fo=if tgt E W key B≠0∧((if s.lv=0 then (0:Int) else 21)=0∨((s.lv-1:Nat):Int)+1<hgt E.l (tgt E W key B)) then tgt E W key B else 0
  rw[hfo];by_cases e:s.lv=0
  ·rw[e];by_cases c0:tgt E W key B=0
   ·rw[if_neg (fun q=>q.1 c0),if_neg (fun q=>q.1 c0)]
   ·have:=EV c0;rw[if_pos ⟨c0,by omega⟩,if_pos ⟨c0,.inl rfl⟩]
  ·have hiff:(tgt E W key B≠0∧((if s.lv=0 then (0:Int) else 21)=0∨((s.lv-1:Nat):Int)+1<hgt E.l (tgt E W key B)))↔(tgt E W key B≠0∧(s.lv:Int)<hgt E.l (tgt E W key B)):=by
    rw[if_neg e];have:((s.lv-1:Nat):Int)+1=s.lv:=by omega
    rw[this];simp
   simp only[hiff]
 ·rw[e1];unfold msr;simp only;by_cases e:s.lv=0
  ·rw[if_pos e];simp
  ·rw[if_neg e];simp;omega
 ·rw[e1];unfold lft;simp only;by_cases e:s.lv=0
  ·rw[if_pos e];simp[e]
  ·rw[if_neg e];simp;omega
theorem adA(hB:B.Pairwise fun t u=>uB E W t<uB E W u)(hge:∀ u∈B,¬uB E W u<key)(hT:∀ u∈B,ux E.l u){u:Int}(hu:u∈B)(hk:uB E W u=key):tgt E W key B=u:=by
 cases B with
 |nil=>simp at hu
 |cons b B=>
  obtain⟨p,-⟩:=List.pairwise_cons.1 hB
  rcases List.mem_cons.1 hu with rfl |hu
  ·unfold tgt;rw[if_pos ⟨by simp,hk⟩];rfl
  ·have:=p u hu;have:=hge b (by simp);omega
theorem R1(h:tgt E W key B≠0):tgt E W key B∈B∧uB E W (tgt E W key B)=key:=by
 unfold tgt at h ⊢;split at h
 ·rename_i c;rw[if_pos c];obtain⟨a,r,rfl,e⟩:=AA c.1;rw[e] at c ⊢;exact⟨by simp,c.2⟩
 ·exact absurd rfl h
theorem SrI.step(ok:tF E)(F:Form E s X)(h0:0≤v)(h1:v<E.V)(hX:X v=A++B)(hA:∀ u∈A,uB E s.W u<key)(hB:∀ u∈B,¬uB E s.W u<key){A1 A2:List Int}{x:SS}(H:SrI E s.W v key A B A1 A2 x)(hp:x.pc≠0):
  ∃ A1' A2',SrI E s.W v key A B A1' A2' (x.step E key (vm s.W (x.ad E)))∧msr (x.step E key (vm s.W (x.ad E))) A2'<msr x A2∧lft x≤lft (x.step E key (vm s.W (x.ad E)))+1:=by
 have N27:=fun u hu=>F.on v h0 h1 u (by rw[hX];exact hu);have lv6:=H.ok.lv;have ad3:=F.path v h0 h1 x.lv lv6;have N28:=H.eA;rw[hX,N28,List.append_assoc,gM,gM] at ad3;have hnd:=H.nd hp;have hhg:=H.hg hp;have PA:(nL E x.lv A1).getLastD (-1-v)=x.nd:=by rw[hnd];exact abt hhg
 have hs:=ad3.skip;rw[PA] at hs;have asB:B.Pairwise fun t u=>uB E s.W t<uB E s.W u:=by have:=F.yt v h0 h1;rw[hX] at this;exact(List.pairwise_append.1 this).2.1
 have hTB:∀ u∈B,ux E.l u:=fun u hu=>(N27 u (by simp[hu])).1;have EV:tgt E s.W key B≠0→1≤hgt E.l (tgt E s.W key B):=fun q=>(ok.num.vh (hTB _ (R1 q).1)).2.2.2.1;have hfo:∀ (q:nL E x.lv B=[]∨∃ b r,nL E x.lv B=b::r∧uB E s.W b≠key),x.fo=if tgt E s.W key B≠0∧(x.lv:Int)<hgt E.l (tgt E s.W key B) then tgt E s.W key B else 0:=fun q=>by
  have hno: ¬ (tgt E s.W key B≠0∧(x.lv:Int)<hgt E.l (tgt E s.W key B)):=fun ⟨c1,c2⟩=>by
   obtain⟨m1,m2⟩:=R1 c1;have m3:tgt E s.W key B∈nL E x.lv B:=eL.2 ⟨m1,c2⟩
   rcases q with q | ⟨b,r,q,hne⟩
   ·rw[q] at m3;simp at m3
   ·have hb:b∈B:=(eL.1 (by rw[q];simp)).1;have as2:=asB.sublist (List.filter_sublist (p:=fun t=>decide ((x.lv:Int)<hgt E.l t)));change (nL E x.lv B).Pairwise _ at as2;rw[q] at m3 as2
    rcases List.mem_cons.1 m3 with e |e
    ·rw[e] at m2;exact hne m2
    ·have:=(List.pairwise_cons.1 as2).1 _ e;have:=hB b hb;omega
  rw[if_neg hno,H.fo,if_neg];rintro ⟨c1,c2⟩
  rcases c2 with c2 |c2
  ·exact hp c2
  ·exact hno ⟨c1,by omega⟩
 rcases H.ok.pc with c0 |c21 |c22
 ·exact absurd c0 hp
 ·
  have had:x.ad E=na E.l x.nd x.lv:=if_pos c21;have hw:vm s.W (x.ad E)=(nL E x.lv A2++nL E x.lv B).headD 0:=by rw[had];exact hs.head
  have hst:x.step E key (vm s.W (x.ad E))=x.nx E (vm s.W (x.ad E)):=if_pos c21;rw[hst,hw];have hm:msr x A2=2*A2.length+2*(x.lv+1):=by unfold msr;rw[if_neg hp,if_pos c21]
  have hl:lft x=x.lv+1:=if_neg hp;by_cases hne:nL E x.lv A2++nL E x.lv B=[]
  ·obtain⟨n1,n2⟩:=List.append_eq_nil_iff.1 hne;have e0:Jt E ((nL E x.lv A2++nL E x.lv B).headD 0) x.lv=0:=by rw[hne];unfold Jt;rw[if_neg (by simp)]
   unfold SS.nx;rw[if_pos e0];obtain⟨a,b,c⟩:=H.ends (c:=0) (fo:=x.fo) hp n1 (by rw[n2];rfl) (hfo (.inl n2)) EV;exact⟨A1,A2,a,by omega,by omega⟩
  ·obtain⟨b,r,hb,hbd⟩:=AA hne;have hbm:b∈nL E x.lv A2++nL E x.lv B:=by rw[hb];simp
   have mT:ux E.l b∧(x.lv:Int)<hgt E.l b:=by
    rcases List.mem_append.1 hbm with q |q
    ·exact⟨(N27 b (by rw[N28];simp[(eL.1 q).1])).1,(eL.1 q).2⟩
    ·exact⟨hTB b (eL.1 q).1,(eL.1 q).2⟩
   have e1:Jt E b x.lv=b:=by unfold Jt;rw[if_pos ⟨mT.1,mT.2⟩]
   have b0:b≠0:=by have:=mT.1.1;omega
   unfold SS.nx;rw[hbd,e1,if_neg b0];refine⟨A1,A2,⟨⟨H.ok.lv,H.ok.bf,H.ok.af,.inr (.inr rfl),fun _=>H.ok.nd hp,fun _=>mT⟩,N28,fun _=>hnd,fun _=>hhg,fun _=>⟨hbd.symm,hne⟩,fun k hk q=>H.done k hk (.inr ?_),?_⟩,?_,?_⟩
   ·rcases q with q |q
    ·exact absurd q (by show ¬(22:Int)=0;decide)
    ·exact q
   ·show x.fo=if tgt E s.W key B≠0∧((22:Int)=0∨(x.lv:Int)+1<hgt E.l (tgt E s.W key B)) then tgt E s.W key B else 0
    rw[H.fo];have hiff:(tgt E s.W key B≠0∧(x.pc=0∨(x.lv:Int)+1<hgt E.l (tgt E s.W key B)))↔(tgt E s.W key B≠0∧((22:Int)=0∨(x.lv:Int)+1<hgt E.l (tgt E s.W key B))):=by
     constructor
     ·rintro ⟨a,b |b⟩
      ·exact absurd b hp
      ·exact⟨a,.inr b⟩
     ·rintro ⟨a,b |b⟩
      ·exact absurd b qi
      ·exact⟨a,.inr b⟩
    simp only[hiff]
   ·rw[hm]
    show 2*A2.length+2*x.lv+1<_
    omega
   ·rw[hl]
    show x.lv+1≤x.lv+1+1
    omega
 ·
  have c21: ¬ x.pc=21:=by omega
  have had:x.ad E=ta E.l x.c:=if_neg c21;have hw:vm s.W (x.ad E)=uB E s.W x.c:=by rw[had];rfl
  have hst:x.step E key (vm s.W (x.ad E))=x.lk key (vm s.W (x.ad E)):=by unfold SS.step;rw[if_neg c21,if_pos c22]
  rw[hst,hw];have hm:msr x A2=2*A2.length+2*x.lv+1:=by unfold msr;rw[if_neg hp,if_neg c21]
  have hl:lft x=x.lv+1:=if_neg hp;obtain⟨ec,hne⟩:=H.c c22;by_cases hA2:nL E x.lv A2=[]
  ·rw[hA2,List.nil_append] at ec hne;obtain⟨b,r,hb,hbd⟩:=AA hne;have hbB:b∈B:=(eL.1 (by rw[hb];simp)).1;rw[hbd] at ec;have hge:=hB b hbB;unfold SS.lk;rw[ec,if_neg hge];obtain⟨p,q,r'⟩:=H.ends (c:=b) (fo:=if uB E s.W b=key∧x.fo=0 then b else x.fo) hp hA2 hbd.symm (by
    show (if uB E s.W b=key∧x.fo=0 then b else x.fo)=_
    by_cases ck:uB E s.W b=key
    ·have et:=adA asB hB hTB hbB ck;have hbh:=(eL.1 (show b∈nL E x.lv B by rw[hb];simp)).2;have b0:b≠0:=by have:=(hTB b hbB).1;omega
     by_cases cf:x.fo=0
     ·rw[if_pos ⟨ck,cf⟩,et,if_pos ⟨b0,hbh⟩]
     ·rw[if_neg (fun q=>cf q.2),et,if_pos ⟨b0,hbh⟩];have e:=H.fo;rw[et] at e;split at e
      ·exact e
      ·exact absurd e cf
    ·rw[if_neg (fun q=>ck q.1)];exact hfo (.inr ⟨b,r,hb,ck⟩)) EV
   exact⟨A1,A2,p,by omega,by omega⟩
  ·
   obtain⟨P,Q,c,hPQ,hP⟩:∃ P Q c,A2=P++c::Q∧nL E x.lv P=[]∧(x.lv:Int)<hgt E.l c:=by
    clear ec hne hs ad3 N28 hm H
    induction A2 with
    |nil=>exact absurd rfl hA2
    |cons a A2 ih=>
     by_cases ca:(x.lv:Int)<hgt E.l a
     ·exact⟨[],A2,a,rfl,rfl,ca⟩
     ·have e:nL E x.lv (a::A2)=nL E x.lv A2:=List.filter_cons_of_neg (by simpa using ca);obtain⟨P,Q,c,rfl,hP,hc⟩:=ih (by rw[←e];exact hA2);exact⟨a::P,Q,c,rfl,by unfold nL at hP ⊢;rw[List.filter_cons_of_neg (by simpa using ca)];exact hP,hc⟩
   subst hPQ;have ec2:x.c=c:=by rw[ec,gM,hP.1,X5 hP.2];rfl
   have hcA:c∈A:=by rw[N28];simp
   have hlt:=hA c hcA;have hcT:=(N27 c (by simp[hcA])).1;unfold SS.lk;rw[ec2,if_pos hlt];have aej:(A1++P++[c]).getLastD (-1-v)=c:=by rw[List.getLastD_eq_getLast?,List.getLast?_concat];rfl
   refine⟨A1++P++[c],Q,⟨⟨H.ok.lv,H.ok.bf,H.ok.af,.inr (.inl rfl),fun _=>⟨by show (0:Int)≤(x.lv:Int);omega,.inr ⟨hcT,hP.2⟩⟩,fun q=>absurd q (by show ¬(21:Int)=22;decide)⟩,by rw[N28];simp,fun _=>aej.symm,fun _ _=>by rw[aej];exact hP.2,fun q=>absurd q (by show ¬(21:Int)=22;decide),fun k hk q=>H.done k hk (.inr ?_),?_⟩,?_,?_⟩
   ·rcases q with q |q
    ·exact absurd q (by show ¬(21:Int)=0;decide)
    ·exact q
   ·show x.fo=if tgt E s.W key B≠0∧((21:Int)=0∨(x.lv:Int)+1<hgt E.l (tgt E s.W key B)) then tgt E s.W key B else 0
    rw[H.fo];have hiff:(tgt E s.W key B≠0∧(x.pc=0∨(x.lv:Int)+1<hgt E.l (tgt E s.W key B)))↔(tgt E s.W key B≠0∧((21:Int)=0∨(x.lv:Int)+1<hgt E.l (tgt E s.W key B))):=by
     constructor
     ·rintro ⟨a,b |b⟩
      ·exact absurd b hp
      ·exact⟨a,.inr b⟩
     ·rintro ⟨a,b |b⟩
      ·exact absurd b qi
      ·exact⟨a,.inr b⟩
    simp only[hiff]
   ·rw[hm]
    show 2*Q.length+2*(x.lv+1)<_
    simp only[List.length_append,List.length_cons];omega
   ·rw[hl]
    show x.lv+1≤x.lv+1+1
    omega
theorem SrI.new(h0:0≤v)(h1:v<E.V)(ok:tF E)(hTB:∀ u∈B,ux E.l u):SrI E W v key A B [] A (SS.new v):=by
 refine⟨rN.new ⟨h0,h1⟩,rfl,fun _=>rfl,fun _ q=>absurd rfl q,fun q=>absurd q (by show ¬(21:Int)=22;decide),fun k hk q=>?_,?_⟩
 ·rcases q with q |q
  ·exact absurd q (by show ¬(21:Int)=0;decide)
  ·have:5<k:=q;omega
 ·show (0:Int)=if tgt E W key B≠0∧((21:Int)=0∨((5:Nat):Int)+1<hgt E.l (tgt E W key B)) then tgt E W key B else 0
  rw[if_neg];rintro ⟨a,b |b⟩
  ·exact absurd b qi
  ·have:=(ok.num.vh (hTB _ (R1 a).1)).2.2.2.2;omega
theorem N20(ok:tF E)(F:Form E s X)(h0:0≤v)(h1:v<E.V)(hX:X v=A++B)(hA:∀ u∈A,uB E s.W u<key)(hB:∀ u∈B,¬uB E s.W u<key):
  ∃ N A1 A2,(B6 E s.W key N (SS.new v)).pc=0∧(∀ i,i<N→(B6 E s.W key i (SS.new v)).pc≠0)∧(∀ i,i≤N→rN E (B6 E s.W key i (SS.new v)))∧SrI E s.W v key A B A1 A2 (B6 E s.W key N (SS.new v))∧N≤2*A.length+12∧6≤N:=by
 have hTB:∀ u∈B,ux E.l u:=fun u hu=>(F.on v h0 h1 u (by rw[hX];simp[hu])).1;have key2:∀ (m i:Nat) (A1 A2:List Int),SrI E s.W v key A B A1 A2 (B6 E s.W key i (SS.new v))→msr (B6 E s.W key i (SS.new v)) A2≤m→msr (B6 E s.W key i (SS.new v)) A2+i≤2*A.length+12→6≤lft (B6 E s.W key i (SS.new v))+i→(∀ j,j<i→(B6 E s.W key j (SS.new v)).pc≠0)→(∀ j,j<i→rN E (B6 E s.W key j (SS.new v)))→
   ∃ N A1 A2,(B6 E s.W key N (SS.new v)).pc=0∧(∀ i,i<N→(B6 E s.W key i (SS.new v)).pc≠0)∧(∀ i,i≤N→rN E (B6 E s.W key i (SS.new v)))∧SrI E s.W v key A B A1 A2 (B6 E s.W key N (SS.new v))∧N≤2*A.length+12∧6≤N:=by
  intro m
  induction m with
  |zero=>
   intro i A1 A2 H hm hb hl hj hk;by_cases hp:(B6 E s.W key i (SS.new v)).pc=0
   ·refine⟨i,A1,A2,hp,hj,fun j hji=>?_,H,by omega,?_⟩
    ·rcases Nat.lt_or_eq_of_le hji with q |q
     ·exact hk j q
     ·rw[q];exact H.ok
    ·have:lft (B6 E s.W key i (SS.new v))=0:=if_pos hp;omega
   ·obtain⟨A1',A2',H',hlt,-⟩:=H.step ok F h0 h1 hX hA hB hp;omega
  |succ m ih=>
   intro i A1 A2 H hm hb hl hj hk;by_cases hp:(B6 E s.W key i (SS.new v)).pc=0
   ·refine⟨i,A1,A2,hp,hj,fun j hji=>?_,H,by omega,?_⟩
    ·rcases Nat.lt_or_eq_of_le hji with q |q
     ·exact hk j q
     ·rw[q];exact H.ok
    ·have:lft (B6 E s.W key i (SS.new v))=0:=if_pos hp;omega
   ·obtain⟨A1',A2',H',hlt,hlf⟩:=H.step ok F h0 h1 hX hA hB hp;rw[←X6] at H' hlt hlf;refine ih (i+1) A1' A2' H' qJ qJ qJ (fun j hji=>?_) fun j hji=>?_
    ·rcases Nat.lt_or_eq_of_le (Nat.lt_succ_iff.1 hji) with q |q
     ·exact hj j q
     ·rw[q];exact hp
    ·rcases Nat.lt_or_eq_of_le (Nat.lt_succ_iff.1 hji) with q |q
     ·exact hk j q
     ·rw[q];exact H.ok
 refine key2 (2*A.length+12) 0 [] A (SrI.new h0 h1 ok hTB) ?_ ?_ (by show 6≤5+1+0;omega) (fun j hj=>by omega) fun j hj=>by omega
 ·show 2*A.length+2*(5+1)≤_;omega
 ·show 2*A.length+2*(5+1)+0≤_;omega
end
end Go.Proofs.YtofmbmclopgldaaGreat
namespace Go.Proofs.YtofmbmclopgldaaGreat
open Go.Am
section
variable {E:Ev} {W:List Int} {v key w:Int}
def sfN(E:Ev)(W:List Int)(key:Int):List Int→Int
 | []=>0
 |t::r=>if uB E W t<key then sfN E W key r else t
def sfB(E:Ev)(W:List Int)(v key:Int):List Int→Int
 | [] => -1-v
 |t::r=>if uB E W t<key∧sfB E W v key r<0 then t else sfB E W v key r
def sfW(E:Ev)(W:List Int)(key w:Int):List Int→Int
 | []=>w
 |t::r=>if uB E W t=key then t else sfW E W key w r
theorem ahc{P Q:List Int}(hP:∀ u∈P,uB E W u<key)(hQ:∀ u∈Q,¬uB E W u<key):sfN E W key (P++Q)=Q.headD 0:=by
 induction P with
 |nil=>
  cases Q with
  |nil=>rfl
  |cons q Q=>exact if_neg (hQ q (by simp))
 |cons p P ih=>rw[List.cons_append,sfN,if_pos (hP p (by simp))];exact ih fun u hu=>hP u (by simp[hu])
theorem ahg{P Q:List Int}(hv:0≤v)(hP:∀ u∈P,uB E W u<key∧0<u)(hQ:∀ u∈Q,¬uB E W u<key):sfB E W v key (P++Q)=P.getLastD (-1-v):=by
 induction P with
 |nil=>
  simp only[List.nil_append,List.getLastD_nil]
  induction Q with
  |nil=>rfl
  |cons q Q ih=>rw[sfB,if_neg fun c=>hQ q (by simp) c.1];exact ih fun u hu=>hQ u (by simp[hu])
 |cons p P ih=>
  have ih:=ih fun u hu=>hP u (by simp[hu]);rw[List.cons_append,sfB,ih];cases P with
  |nil=>rw[if_pos ⟨(hP p (by simp)).1,by simp;omega⟩];rfl
  |cons q P=>
   have hm:(q::P).getLastD (-1-v)∈q::P:=by
    rw[List.getLastD_eq_getLast?,List.getLast?_eq_some_getLast (by simp)];exact List.getLast_mem _
   have:=(hP _ (List.mem_cons_of_mem _ hm)).2;rw[if_neg fun c=>by have:=c.2;omega,List.getLastD_cons,List.getLastD_cons,List.getLastD_cons]
theorem N32{L:List Int}(h:∀ u∈L,uB E W u≠key):sfW E W key w L=w:=by
 induction L with
 |nil=>rfl
 |cons p P ih=>rw[sfW,if_neg (h p (by simp))];exact ih fun u hu=>h u (by simp[hu])
theorem ahh{L:List Int}{t:Int}(ht:t∈L)(h:∀ u∈L,uB E W u=key↔u=t):sfW E W key w L=t:=by
 induction L with
 |nil=>simp at ht
 |cons p P ih=>
  rw[sfW];by_cases c:uB E W p=key
  ·rw[if_pos c];exact(h p (by simp)).1 c
  ·rw[if_neg c]
   rcases List.mem_cons.1 ht with e |ht
   ·exact absurd ((h p (by simp)).2 e.symm) c
   ·exact ih ht fun u hu=>h u (by simp[hu])
theorem ae6{s:Sd}{X:Int→List Int}{A B:List Int}(F:Form E s X)(h0:0≤v)(h1:v<E.V)(hX:X v=A++B)(hA:∀ u∈A,uB E s.W u<key)(hB:∀ u∈B,¬uB E s.W u<key)(k:Nat)(hw:k=0∧w=0∨0<k∧w=tgt E s.W key B)(ok:tF E):
  sfW E s.W key w (nL E k (A++B))=tgt E s.W key B:=by
 have N27:=fun u hu=>F.on v h0 h1 u (by rw[hX];exact hu);have asX:=F.yt v h0 h1;rw[hX] at asX;obtain⟨-,asB,-⟩:=List.pairwise_append.1 asX;have hTB:∀ u∈B,ux E.l u:=fun u hu=>(N27 u (by simp[hu])).1;have uniq:∀ u∈A++B,uB E s.W u=key→u=tgt E s.W key B:=fun u hu e=>by
  rcases List.mem_append.1 hu with q |q
  ·have:=hA u q;omega
  ·exact(adA asB hB hTB q e).symm
 by_cases c:tgt E s.W key B=0
 ·have hne:∀ u∈nL E k (A++B),uB E s.W u≠key:=fun u hu e=>by
   have hu:=(eL.1 hu).1;have:=uniq u hu e;have:=(N27 u hu).1.1;omega
  rw[N32 hne,c]
  rcases hw with ⟨-,q⟩ | ⟨-,q⟩<;>omega
 ·obtain⟨m1,m2⟩:=R1 c;by_cases hk:(k:Int)<hgt E.l (tgt E s.W key B)
  ·exact ahh (eL.2 ⟨by simp[m1],hk⟩) fun u hu=>⟨fun e=>uniq u (eL.1 hu).1 e,fun e=>by rw[e];exact m2⟩
  ·have hne:∀ u∈nL E k (A++B),uB E s.W u≠key:=fun u hu e=>by
    obtain⟨h1,h2⟩:=eL.1 hu;rw[uniq u h1 e] at h2;exact hk h2
   rw[N32 hne]
   rcases hw with ⟨q,-⟩ | ⟨-,q⟩
   ·subst q;have:=(ok.num.vh (hTB _ m1)).2.2.2.1;omega
   ·exact q
end
end Go.Proofs.YtofmbmclopgldaaGreat
namespace Go.Proofs.YtofmbmclopgldaaGreat
open Go.Am Go.Proofs.Tryz
def Sd.lds(E:Ev)(s:Sd)(th key:Int)(x:SS):Nat→Sd
 |0=>s
 |n+1=>(Sd.lds E s th key x n).ld th ((B6 E s.W key n x).ad E)
theorem N23{E:Ev}{s:Sd}{th key:Int}{x:SS}:∀ n,(s.lds E th key x n).W=s.W∧(s.lds E th key x n).k=s.k+n∧(s.lds E th key x n).K=s.K
 |0=>⟨rfl,rfl,rfl⟩
 |n+1=>by
  obtain⟨a,b,c⟩:=@N23 E s th key x n;exact⟨a,by show (s.lds E th key x n).k+1=_;omega,c⟩
def B4(E:Ev)(W:List Int)(key:Int)(x:SS)(n:Nat):List Int:=(List.range n).map fun i=>(B6 E W key i x).pc
theorem N26{E:Ev}{W:List Int}{key:Int}{x:SS}{n:Nat}:(B4 E W key x n).length=n:=by simp[B4]
theorem acz{E:Ev}{W:List Int}{key:Int}{x:SS}{n:Nat}:B4 E W key x (n+1)=B4 E W key x n++[(B6 E W key n x).pc]:=by simp[B4,List.range_succ]
def grV(g k:Nat):Value:=if k=0 then .slice none 0 0 else .slice (some ⟨g,0,none⟩) k (aA+1)
theorem N30{g k:Nat}(h:0<k):grV g k = .slice (some ⟨g,0,none⟩) k (aA+1):=if_neg qJ
abbrev B1:Rl:=(231,0)
abbrev N35:Rl:=(250,0)
abbrev xRn:List Rl:=[(231,0),(250,0),(0,0),(1,0),(2,0)]
abbrev yRn:List Rl:=[(231,0),(250,0),(2,0)]
theorem N19{h:PT aj}{n:Nat}{d:Rl→Nat}{C:Rl→Option aj}{t:Nat}(ht:t≠9999)(S:St h n d C)(A:Option aj)(L:List Value):Nz n d C [(t,0)] [(t,0)] (upd d (t,0) (n+1)) (upd C (t,0) (row L)) ((h.set n A).set (n+1) (row L)) (n+1+1):=
 ⟨by omega,(S.junk (Nat.le_refl _) (Nat.lt_succ_self _)).new (t,0) _ (Nat.le_refl _) (Nat.lt_succ_self _),fun h1 n1 q F=>F.new (a:=t) (b:=0) ht qJ _,fun r hr=>bB (by simpa using hr),fun r hr=>bB (by simpa using hr)⟩
theorem N15{h:PT aj}{n:Nat}{d:Rl→Nat}{C:Rl→Option aj}{t:Nat}(ht:t≠9999)(S:St h n d C)(A:Option aj){L0:List Value}(e:C (t,0)=row L0)(L:List Value):Nz n d C [(t,0)] [(t,0)] (upd d (t,0) (n+1)) (upd (upd C (t,0) none) (t,0) (row L)) (((h.set n A).set (d (t,0)) none).set (n+1) (row L)) (n+1+1):=
 ⟨by omega,((S.junk (Nat.le_refl _) (Nat.lt_succ_self _)).kill (t,0) e rfl).new (t,0) _ (Nat.le_refl _) (Nat.lt_succ_self _),fun h1 n1 q F=>(F.set (a:=t) (b:=0) ht e none).new (a:=t) (b:=0) ht qJ _,fun r hr=>by
  have:r≠(t,0):=by simpa using hr
  rw[bB this,bB this],fun r hr=>bB (by simpa using hr)⟩
section
variable {E:Ev} {a b:Sd} {d:Rl→Nat} {C:Rl→Option aj} {h:PT aj} {n:Nat}
theorem aBt(T:Tw E a b d C h n)(hk:a.k≤70000){th v key:Int}{N:Nat}(hth:0≤th∧th<64)(hv:0≤v∧v<E.V)(hkey:0≤key∧key<18446744073709551616)(hN4:N≤400)(hN1:1≤N)(h0:(B6 E a.W key N (SS.new v)).pc=0)(hpc:∀ i,i<N→(B6 E a.W key i (SS.new v)).pc≠0)(hok:∀ i,i≤N→rN E (B6 E a.W key i (SS.new v))):
  cE prog OB 39 [pt (d (70,0)),I6 th,I6 v,U6 key] h n fun y h' n'=>∃ d' C',y=iU [pt (d' B1),.slice (some ⟨d' N35,0,none⟩) N (aA+1),.bool true]∧Nz n d C xRn yRn d' C' h' n'∧C' B1=row (kV (d (70,0)) (d' B1) th key (B6 E a.W key N (SS.new v)))∧C' N35=row ((B4 E a.W key (SS.new v) N).map (.int .u8))∧Tw E (a.lds E th key (SS.new v) N) b d' C' h' n':=by
 have hV2:=T.ok.num.V2;have an:=ahm T B1 qi (th:=th) (v:=v) (key:=key) ⟨by omega,by omega⟩;refine ay (N:=53) func39 rfl rfl fun z hP hO hro hN hQ=>?_
 repeat' first|simp(disch:=try exact jh) only[go_sem, *] | (apply xs<;>intro _)<;>try omega|refine fun (_ _:List Nat)=>?_
 refine zc (an) ?_;rintro y h1 n1 (⟨hno,-⟩ | ⟨-,d1,C1,rfl,N1,c1⟩)
 ·exact absurd ⟨hth,hv⟩ hno
 clear an;have T1:=T.own N1 qi qi;have Mc:=N1.dd (70,0) qi;have I0:∃ d' C',Nz n d C xRn yRn d' C' h1 n1∧d' B1=d1 B1∧C' B1=row (kV (d (70,0)) (d1 B1) th key (B6 E a.W key 0 (SS.new v)))∧(0<0→C' N35=row ((B4 E a.W key (SS.new v) 0).map (.int .u8)))∧Tw E (a.lds E th key (SS.new v) 0) b d' C' h1 n1∧grV (d' N35) 0 = .slice none 0 0:=
  ⟨d1,C1,N1.sub (by simp) (by simp),rfl,c1,fun q=>absurd q qi,T1,rfl⟩
 generalize d1 B1=fa at*;clear T1 N1 c1 T Mc
 repeat' first|simp(disch:=try exact jh) only[go_sem, *,cJ,cG,cH,cI,Bool.not_true,Bool.not_false] | (apply xs<;>intro _)<;>try omega|refine fun (_ _:List Nat)=>?_
 refine a_ (fun t m h' n'=>∃ (i:Nat) (d':Rl→Nat) (C':Rl→Option aj),i<N∧t=N-i∧m.n=53∧m.fF=[]∧m.get 8=pt fa∧m.get 9=grV (d' N35) i∧m.get 11=I6 0∧m.get 12=I6 i∧Nz n d C xRn yRn d' C' h' n'∧d' B1=fa∧C' B1=row (kV (d (70,0)) fa th key (B6 E a.W key i (SS.new v)))∧(0<i→C' N35=row ((B4 E a.W key (SS.new v) i).map (.int .u8)))∧Tw E (a.lds E th key (SS.new v) i) b d' C' h' n') N ?_ ?_
 ·obtain⟨d',C',p1,p2,p3,p4,p5,p6⟩:=I0;refine⟨0,d',C',by omega,by omega,?_⟩;rw[p6];simp(disch:=try exact jh) only[go_sem, *]
  first|exact⟨rfl,p1,p2,p3,fun q=>absurd q qi,p5⟩ |exact⟨p1,p2,p3,fun q=>absurd q qi,p5⟩ |exact fun q=>q.elim |trace_state
 ·clear I0;rintro t m h' n' ih ⟨i,d2,C2,hi,rfl,m1,m2,m3,m4,m5,m6,N2,q1,q2,q3,T2⟩;have e7:(i:Int)<400:=by omega
  have PG:(i:Int)+1=((i+1:Nat):Int):=by omega
  obtain⟨w1,w2,w3⟩:=@N23 E a th key (SS.new v) i;have agP:=N2.dd (70,0) qi;have sa:=aay T2 qJ (r:=B1) qi (hok i qJ) hth hkey (by rw[agP,q1];exact q2);rw[q1,agP,w1,←X6,if_neg (hpc i hi)] at sa;have hpi:=hpc i hi;have hp1:=hpc (i+1);have gF:=T2.st.at q2;rw[q1] at gF;have hsi:=(hok i qJ).pc;have hsn:B4 E a.W key (SS.new v) (i+1)=_:=acz;have WS:(a.lds E th key (SS.new v) i).ld th ((B6 E a.W key i (SS.new v)).ad E)=a.lds E th key (SS.new v) (i+1):=rfl;rw[WS] at sa;simp only[kV] at gF;obtain⟨-,lb,la,-⟩:=hok i qJ;generalize hss:B6 E a.W key i (SS.new v)=ss at*;obtain⟨b0,b1,b2,b3,b4,b5,hbf⟩:∃ b0 b1 b2 b3 b4 b5,ss.bf=[b0,b1,b2,b3,b4,b5]:=six lb;obtain⟨a0,a1,a2,a3,a4,a5,haf⟩:∃ b0 b1 b2 b3 b4 b5,ss.af=[b0,b1,b2,b3,b4,b5]:=six la;rw[hbf,haf] at gF;simp only[List.map_cons,List.map_nil,List.cons_append,List.nil_append] at gF
  repeat' first|simp(disch:=try exact jh) only[go_sem, *,cJ,cG,cH,cI,Bool.not_true,Bool.not_false] | (apply xs<;>intro _)<;>try omega|refine fun (_ _:List Nat)=>?_ | (first|refine bD func87 rfl ?_ ?_ ?_ ?_ |fail)<;>intros
  clear gF;refine zc (sa) ?_;rintro v11 h11 n11 ⟨rfl,d11,C11,Vx,L9,T11⟩;clear sa q2;have N3:=N2.trans (Vx.sub (X':=xRn) (Y':=yRn) (by simp) (by simp));have e1:d11 B1=fa:=(Vx.dd B1 qi).trans q1;have e2:d11 N35=d2 N35:=Vx.dd N35 qi;have e3:C11 N35=C2 N35:=Vx.cc N35 qi;have hlen:=@N26 E a.W key (SS.new v) i;have hdd:decide (ss.pc≠0∧(B6 E a.W key (i+1) (SS.new v)).pc=0)=decide (i+1=N):=by
   by_cases c:i+1=N
   ·subst c;simp[hpi,h0]
   ·have:=hp1 qJ;simp[c,this]
  rw[hdd];clear hdd;have hLn:∀ x:List Value,x=(B4 E a.W key (SS.new v) i).map (.int .u8)→x++[U8 ss.pc]=(B4 E a.W key (SS.new v) (i+1)).map (.int .u8):=fun x hx=>by rw[hsn,hx];simp[hss]
  have aJy:ss.pc=21∨ss.pc=22:=by omega
  clear hsn;generalize hpp:ss.pc=pp at*
  rcases Nat.eq_zero_or_pos i with JL |JL
  ·subst JL;have p5:m.get 9 = .slice none 0 0:=m4;have N4:=N19 (t:=250) qi T11.st (row [U8 pp]) [U8 pp];have T4:=T11.own N4 qi qi;have N5:=N3.trans (N4.sub (X':=xRn) (Y':=yRn) (by simp) (by simp));have f1:C11 B1=(upd C11 N35 (row [U8 pp])) B1:=(au qi).symm;have hL:=hLn [] (by simp[B4]);rw[List.nil_append] at hL;have f2:upd C11 N35 (row [U8 pp]) N35=row ((B4 E a.W key (SS.new v) (0+1)).map (.int .u8)):=by rw[aq,hL]
   have f3:upd d11 N35 (n11+1) N35=n11+1:=aq;have f4:upd d11 N35 (n11+1) B1=fa:=(au qi).trans e1;rw[f1] at L9;generalize upd C11 N35 (row [U8 pp])=C4 at*;generalize upd d11 N35 (n11+1)=d4 at*;clear m4 hL hLn f1 N4 N3 N2 Vx T11 T2 hp1 hpc hok;by_cases hl:0+1=N
   ·subst hl;rw[decide_eq_true rfl];clear ih
    repeat' first|simp(disch:=try exact jh) only[go_sem, *,cJ,cG,cH,cI,Bool.not_true,Bool.not_false] | (apply xs<;>intro _)<;>try omega|refine fun (_ _:List Nat)=>?_
    refine⟨d4,C4,?_,N5,?_,f2,T4⟩
    ·rw[f3,f4]
    ·rw[f4,L9];simp only[kV,h0,List.cons_append,List.nil_append]
   ·rw[decide_eq_false hl]
    repeat' first|simp(disch:=try exact jh) only[go_sem, *,cJ,cG,cH,cI,Bool.not_true,Bool.not_false] | (apply xs<;>intro _)<;>try omega|refine fun (_ _:List Nat)=>?_
    refine ih (N-(0+1)) _ _ _ qJ ⟨0+1,d4,C4,by omega,rfl,?_⟩;have g9:grV (d4 N35) (0+1) = .slice (some ⟨n11+1,0,none⟩) 1 (aA+1):=by rw[f3];rfl
    rw[g9];clear ih;simp(disch:=try exact jh) only[go_sem, *]
    first|exact⟨N5,f4,L9,fun _=>f2,T4⟩ |exact⟨rfl,N5,f4,L9,fun _=>f2,T4⟩ |exact⟨rfl,fun _=>trivial⟩ |exact fun _=>trivial |trace_state
  ·rw[N30 JL] at m4;have q4:=q3 JL;rw[←e3] at q4;have hrow:=T11.st.at q4;rw[e2] at hrow;have N4:=N15 (t:=250) qi T11.st (row [U8 pp]) q4 ((B4 E a.W key (SS.new v) i).map (.int .u8)++[U8 pp]);have hlt:=T11.st.lt q4;rw[e2] at hlt N4;have T4:=T11.own N4 qi qi;have N5:=N3.trans (N4.sub (X':=xRn) (Y':=yRn) (by simp) (by simp));have hml:((B4 E a.W key (SS.new v) i).map (Value.int .u8)).length=i:=by rw[List.length_map,hlen]
   have hLn:=hLn _ rfl;have zJ:((B4 E a.W key (SS.new v) i).map (Value.int .u8)).take i=(B4 E a.W key (SS.new v) i).map (.int .u8):=List.take_of_length_le qJ;generalize (B4 E a.W key (SS.new v) i).map (Value.int .u8)=La at*;have f1:C11 B1=(upd (upd C11 N35 none) N35 (row (La++[U8 pp]))) B1:=by rw[au qi,au qi]
   have f2:upd (upd C11 N35 none) N35 (row (La++[U8 pp])) N35=row ((B4 E a.W key (SS.new v) (i+1)).map (.int .u8)):=by rw[aq,hLn]
   have f3:upd d11 N35 (n11+1) N35=n11+1:=aq;have f4:upd d11 N35 (n11+1) B1=fa:=(au qi).trans e1;rw[f1] at L9;generalize upd (upd C11 N35 none) N35 (row (La++[U8 pp]))=C4 at*;generalize upd d11 N35 (n11+1)=d4 at*;have Lb:Nat.ble (i+1) 1048576=true:=Nat.ble_eq_true_of_le qJ;clear hLn f1 N4 N3 N2 Vx T11 T2 hp1 hpc hok q3 q4 e3 hlen;by_cases hl:i+1=N
   ·subst hl;rw[decide_eq_true rfl];clear ih
    repeat' first|simp(disch:=try exact jh) only[go_sem, *,cJ,cG,cH,cI,Bool.not_true,Bool.not_false] | (apply xs<;>intro _)<;>try omega|refine fun (_ _:List Nat)=>?_
    refine⟨d4,C4,?_,N5,?_,f2,T4⟩
    ·rw[f3,f4]
    ·rw[f4,L9];simp only[kV,h0,List.cons_append,List.nil_append]
   ·rw[decide_eq_false hl]
    repeat' first|simp(disch:=try exact jh) only[go_sem, *,cJ,cG,cH,cI,Bool.not_true,Bool.not_false] | (apply xs<;>intro _)<;>try omega|refine fun (_ _:List Nat)=>?_
    refine ih (N-(i+1)) _ _ _ qJ ⟨i+1,d4,C4,by omega,rfl,?_⟩;have g9:grV (d4 N35) (i+1) = .slice (some ⟨n11+1,0,none⟩) (i+1:Nat) (aA+1):=by rw[f3];exact N30 (Nat.succ_pos _)
    rw[g9];clear ih;simp(disch:=try exact jh) only[go_sem, *]
    first|exact⟨N5,f4,L9,fun _=>f2,T4⟩ |exact⟨rfl,N5,f4,L9,fun _=>f2,T4⟩ |exact⟨rfl,fun _=>trivial⟩ |exact fun _=>trivial |trace_state
end
end Go.Proofs.YtofmbmclopgldaaGreat
