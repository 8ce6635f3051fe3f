/-
  A part of the proof: contracts of inner functions.
-/
import Derived.Test.YtbceiadaihphaaaGreatRX2
set_option linter.unusedVariables false
set_option linter.unusedSimpArgs false
namespace Go.Proofs.YtbceiadaihphaaaGreat
open Go.Am
def Ff:Option Nat→Nat
 |none=>0
 |some t=>t+1
def wG (ns:Nat) (s:GS) (i:Nat):Nat:=if i%4=0 then (s.G (i/4)).toNat else if i%4=1 then s.cnt ns (i/4) false else if i%4=2 then s.cnt ns (i/4) true else Ff (s.K (i/4))
theorem IJ {ns:Nat} {s:GS} {b:Nat}:wG ns s (4*b)=(s.G b).toNat:=by unfold wG;rw[if_pos (by omega),show 4*b/4=b by omega]
theorem Cd {ns:Nat} {s:GS} {b:Nat} {sd:Bool}:wG ns s (4*b+1+sd.toNat)=s.cnt ns b sd:=by
 cases sd
 ·show wG ns s (4*b+1+0)=_
  unfold wG;rw[if_neg (by omega),if_pos (by omega),show (4*b+1+0)/4=b by omega]
 ·show wG ns s (4*b+1+1)=_
  unfold wG;rw[if_neg (by omega),if_neg (by omega),if_pos (by omega),show (4*b+1+1)/4=b by omega]
theorem IK {ns:Nat} {s:GS} {b:Nat}:wG ns s (4*b+3)=Ff (s.K b):=by unfold wG;rw[if_neg (by omega),if_neg (by omega),if_neg (by omega),show (4*b+3)/4=b by omega]
theorem lZ {ns:Nat} {s s':GS} {i0:Nat} (h0:∀ b,4*b≠i0→s'.G b=s.G b) (hc:∀ b sd,4*b+1+sd.toNat≠i0→s'.cnt ns b sd=s.cnt ns b sd) (h3:∀ b,4*b+3≠i0→s'.K b=s.K b) (j:Nat) (hj:j≠i0):wG ns s' j=wG ns s j:=by
 unfold wG
 by_cases c0:j%4=0
 ·rw[if_pos c0,if_pos c0,h0 _ (by omega)]
 rw[if_neg c0,if_neg c0]
 by_cases c1:j%4=1
 ·rw[if_pos c1,if_pos c1,hc _ _ (by show 4*(j/4)+1+0≠i0;omega)]
 rw[if_neg c1,if_neg c1]
 by_cases c2:j%4=2
 ·rw[if_pos c2,if_pos c2,hc _ _ (by show 4*(j/4)+1+1≠i0;omega)]
 rw[if_neg c2,if_neg c2,h3 _ (by omega)]
theorem Ce {f:Nat→fX} {t:Nat} {g q:fX}:∀ n,n≤t→(List.range n).countP (fun u=>decide (fs f t g u=q))=(List.range n).countP fun u=>decide (f u=q):=fun n hn=>List.countP_congr fun u hu=>by
 have:u<n:=by simpa using hu
 rw[az (by omega)]
theorem uZ {f:Nat→fX} {t:Nat} {g q:fX}:∀ n,t<n→(List.range n).countP (fun u=>decide (fs f t g u=q))+(if f t=q then 1 else 0)=(List.range n).countP (fun u=>decide (f u=q))+(if g=q then 1 else 0)
 |0,h=>by omega
 |n+1,h=>by
  rw[List.range_succ,List.countP_append,List.countP_append]
  have one:∀ p:Nat→Bool,[n].countP p=if p n=true then 1 else 0:=fun p=>by simp[List.countP_cons]
  rw[one,one]
  by_cases c:t=n
  ·subst c
   rw[Ce t (Nat.le_refl _),aA]
   simp only[decide_eq_true_eq]
   omega
  ·have ih:=uZ (f:=f) (t:=t) (g:=g) (q:=q) n (by omega)
   rw[az (fun e=>c e.symm)]
   omega
theorem Fg {ns:Nat} {s:GS} {b:Nat} {sd:Bool}:s.cnt ns b sd≤ns:=by
 unfold GS.cnt
 exact Nat.le_trans List.countP_le_length (by simp)
def IL (ph:Nat):Int:=if ph=0 then 2 else if ph=1 then 15 else if ph=2 then 19 else if ph=3 then 20 else if ph=4 then 19 else 3
def Y6 (ph:Nat):Nat:=if ph=0 then 177 else if ph=1 then 182 else if ph=2 then 186 else if ph=3 then 189 else if ph=4 then 191 else 192
def kK (nb:Nat) (g:fX) (d:Rl→Nat) (C:Rl→Option aj) (t:Nat):Prop:=match g with
 | .no=>True
 | .ct b=>b<nb∧C (8,t)=row [.iface 291 (pt (d (9,t)))]∧C (9,t)=row ([pt (d rM),I6 t]++oY 0 b++[pt (d (15,t))])∧C (15,t)=row [I6 (-1),.bool false]
 | .seen b sd=>b<nb∧C (8,t)=row [.iface 291 (pt (d (9,t)))]∧C (9,t)=row ([pt (d rM),I6 t]++oY 0 b++[pt (d (15,t))])∧C (15,t)=row [I6 (4*b+1+sd.toNat:Nat),.bool false]
 | .bB b sd=>b<nb∧C (15,t)=row [I6 (4*b+1+sd.toNat:Nat),.bool true]
theorem kK.of {nb:Nat} {g:fX} {d d':Rl→Nat} {C C':Rl→Option aj} {t:Nat} (R:kK nb g d C t) (h8:C' (8,t)=C (8,t)) (h9:C' (9,t)=C (9,t)) (Y7:C' (15,t)=C (15,t)) (e9:d' (9,t)=d (9,t)) (wT:d' (15,t)=d (15,t)) (eM:d' rM=d rM):kK nb g d' C' t:=by
 cases g with
 |no=>trivial
 |ct b=>obtain⟨a1,a2,a3,a4⟩:=R;exact⟨a1,by rw[h8,e9];exact a2,by rw[h9,eM,wT];exact a3,by rw[Y7];exact a4⟩
 |seen b sd=>obtain⟨a1,a2,a3,a4⟩:=R;exact⟨a1,by rw[h8,e9];exact a2,by rw[h9,eM,wT];exact a3,by rw[Y7];exact a4⟩
 |bB b sd=>obtain⟨a1,a2⟩:=R;exact⟨a1,by rw[Y7];exact a2⟩
structure mU (nb:Nat) (x:GW) (d:Rl→Nat) (C:Rl→Option aj) (t k:Nat) (off fl:Nat) (Lf:List Int) (b:Nat) (r:List Nat):Prop where
 left:x.left=b::r
 list:Lf.drop off=(b::r).map fun v:Nat=>(v:Int)
 lt:∀ v,v∈b::r→v<nb
 hfl:fl*6≤k
 ph:x.ph≤5
 Ar:C (10,t)=row [.iface 302 (pt (d (11,t)))]
 Cf:C (12,t)=row (Lf.map (.int .i64))
 RM:C (11,t)=row (bV (d (5,0)) t (d (12,t)) off (r.length+1) (aB+1) (d (13,t)) x.side.toNat (IL x.ph) (Y6 x.ph))
 r13:x.ph=0→C (13,t)=row [I6 fl,I6 0,pt (d rM),I6 t,I6 (4*b+3:Nat),.func (.func 180) ⟨[pt (d (13,t))]⟩ ⟨[]⟩,I6 0]
theorem mU.of {nb:Nat} {x:GW} {d d':Rl→Nat} {C C':Rl→Option aj} {t k k' off fl:Nat} {Lf:List Int} {b:Nat} {r:List Nat} (R:mU nb x d C t k off fl Lf b r) (hk:k≤k') (V2:C' (10,t)=C (10,t)) (h11:C' (11,t)=C (11,t)) (h12:C' (12,t)=C (12,t)) (h13:C' (13,t)=C (13,t)) (e5:d' (5,0)=d (5,0)) (cL:d' (11,t)=d (11,t)) (k_:d' (12,t)=d (12,t)) (zh:d' (13,t)=d (13,t)) (eM:d' rM=d rM):mU nb x d' C' t k' off fl Lf b r:=
 ⟨R.left,R.list,R.lt,Nat.le_trans R.hfl hk,R.ph,by rw[V2,cL];exact R.Ar,by rw[h12];exact R.Cf,by rw[h11,e5,k_,zh];exact R.RM,fun c=>by rw[h13,eM,zh];exact R.r13 c⟩
structure zA (ns:Nat) (s:GS) (d:Rl→Nat) (X:List jy):Prop where
 nodup:∀ (i j:Nat) (e f:jy),X[i]? = some e→X[j]? = some f→e.1=f.1→i=j
 mem:∀ e∈X,∃ t:Nat,t<ns∧e.1=(t:Int)∧e.2.1=pt (d (15,t))∧s.S t ≠ .no
 all:∀ t:Nat,t<ns→s.S t ≠ .no→∃ e∈X,e.1=(t:Int)
def sH (s:GS) (t:Nat):Int:=match s.S t with
 | .ct _=>15
 | _=>16
def nY (s:GS) (t:Nat):Int:=match s.X t with
 |none=>2
 |some x=>IL x.ph
def Ki (ns:Nat) (s:GS) (t:Nat):List Value:=match s.S t with
 | .ct b=>bI t (4*b:Nat) 1 ((s.G b).toNat:Int) ((s.G b).toNat:Int) false
 | .seen b sd=>bI t (4*b+1+sd.toNat:Nat) 3 (s.cnt ns b sd:Int) ((s.cnt ns b sd:Int)+1) false
 | _=>bI t 0 1 0 0 false
def OM (ns:Nat) (s:GS) (t:Nat):List Value:=match s.S t with
 | .bB b sd=>bI t (4*b+1+sd.toNat:Nat) 3 (s.cnt ns b sd:Int) ((s.cnt ns b sd:Int)-1) false
 | _=>bI t 0 1 0 0 false
def zB (ns:Nat) (s:GS) (t:Nat):List Value:=match s.X t with
 |some ⟨b::r,ph,sd⟩=>
  if ph=0 then bI t (4*b+3:Nat) 4 (Ff (s.K b):Nat) (if s.K b=none then (t:Int)+1 else (Ff (s.K b):Nat)) (decide (s.K b=none))
  else if ph=1 then bI t (4*b:Nat) 1 ((s.G b).toNat:Int) ((s.G b).toNat:Int) false
  else if ph=2 then bI t (4*b+1+(!sd).toNat:Nat) 1 (s.cnt ns b (!sd):Int) (s.cnt ns b (!sd):Int) false
  else if ph=3 then bI t (4*b:Nat) 2 ((s.G b).toNat:Int) (1-(sd.toNat:Int)) false
  else if ph=4 then bI t (4*b+1+sd.toNat:Nat) 1 (s.cnt ns b sd:Int) (s.cnt ns b sd:Int) false
  else bI t (4*b+3:Nat) 2 ((t:Int)+1) 0 false
 | _=>bI t 0 1 0 0 false
noncomputable def xG (ns nb:Nat):eG (g_ ns nb) where
 hJ:=sH
 h_:=nY
 CU:=16
 aE:=Ki ns
 aX:=OM ns
 aW:=zB ns
structure gP (ns nb:Nat) (s:GS) (L:List Value) (d:Rl→Nat) (C:Rl→Option aj):Prop where
 hnb:0<nb∧nb≤16
 mem:∃ k,dP d C (nl (4*nb) (wG ns s)) L k
 xM:∃ X ck,BV d C 0 nb ns X ck∧zA ns s d X
 sc:C (20,0)=none
 sec:∀ t,t<ns→kK nb (s.S t) d C t
 own:∀ t x b r,t<ns→s.X t=some x→x.left=b::r→1≤x.ph→s.K b=some t
 wa:∀ t x,t<ns→s.X t=some x→∃ off fl Lf b r,mU nb x d C t L.length off fl Lf b r
theorem pW {ns nb k' t:Nat} {s s':GS} {d d':Rl→Nat} {C C':Rl→Option aj} {L L':List Value} (R:gP ns nb s L d C) (ht:t<ns) (hk:L.length≤L'.length) (hS:s'.S=s.S) (hX:∀ u,u≠t→s'.X u=s.X u) (own:∀ u x b r,u<ns→s'.X u=some x→x.left=b::r→1≤x.ph→s'.K b=some u) (hC:∀ a b,2<a→ ¬(10≤a∧a≤13∧b=t)→C' (a,b)=C (a,b)) (hd:∀ a b,(a,b)≠rL→ ¬(10≤a∧a≤13∧b=t)→d' (a,b)=d (a,b)) (M:dP d' C' (nl (4*nb) (wG ns s')) L' k') (hw:∀ x,s'.X t=some x→∃ off fl Lf b r,mU nb x d' C' t L'.length off fl Lf b r):gP ns nb s' L' d' C':=by
 obtain⟨hnb,mem,⟨X,ck,⟨e1,e2,e3⟩,sx⟩,sc,sec,ow,wa⟩:=R
 have dM:d' rM=d rM:=hd 0 0 (by decide) (by omega)
 refine⟨hnb,⟨k',M⟩,⟨X,ck,⟨?_,?_,?_⟩,⟨sx.nodup,fun e he=>?_,fun t ht h=>sx.all t ht (by rw[←hS];exact h)⟩⟩,?_,fun u hu=>?_,own,fun u x hu hx=>?_⟩
 ·rw[hC 4 0 (by omega) (by omega),hd 5 0 (by decide) (by omega)];exact e1
 ·rw[hC 5 0 (by omega) (by omega),dM,hd 6 0 (by decide) (by omega)];exact e2
 ·rw[hC 6 0 (by omega) (by omega)];exact e3
 ·obtain⟨u,a1,a2,a3,a4⟩:=sx.mem e he
  exact⟨u,a1,a2,by rw[hd 15 u (by simp) (by omega)];exact a3,by rw[hS];exact a4⟩
 ·rw[hC 20 0 (by omega) (by omega)];exact sc
 ·rw[hS]
  exact(sec u hu).of (hC 8 u (by omega) (by omega)) (hC 9 u (by omega) (by omega)) (hC 15 u (by omega) (by omega)) (hd 9 u (by simp) (by omega)) (hd 15 u (by simp) (by omega)) dM
 ·by_cases c:u=t
  ·subst c;exact hw x hx
  ·rw[hX u c] at hx
   obtain⟨off,fl,Lf,b,r,w⟩:=wa u x hu hx
   exact⟨off,fl,Lf,b,r,w.of hk (hC 10 u (by omega) (by omega)) (hC 11 u (by omega) (by omega)) (hC 12 u (by omega) (by omega)) (hC 13 u (by omega) (by omega)) (hd 5 0 (by decide) (by omega)) (hd 11 u (by simp) (by omega)) (hd 12 u (by simp) (by omega)) (hd 13 u (by simp) (by omega)) dM⟩
theorem u5 {ns nb k' t:Nat} {s s':GS} {d d':Rl→Nat} {C C':Rl→Option aj} {L L':List Value} {X:List jy} {ck:Nat} (R:gP ns nb s L d C) (ht:t<ns) (hk:L.length≤L'.length) (hS:∀ u,u≠t→s'.S u=s.S u) (hX:s'.X=s.X) (hK:s'.K=s.K) (hC:∀ a b,2<a→a≠6→ ¬(a=15∧b=t)→ ¬(a=8∧b=t)→ ¬(a=9∧b=t)→C' (a,b)=C (a,b)) (hd:∀ a b,(a,b)≠rL→ ¬(a=15∧b=t)→ ¬(a=8∧b=t)→ ¬(a=9∧b=t)→d' (a,b)=d (a,b)) (M:dP d' C' (nl (4*nb) (wG ns s')) L' k') (h6:C' (6,0)=some (.map (gZ .i64 X) ck)) (sx:zA ns s' d' X) (hs:kK nb (s'.S t) d' C' t):gP ns nb s' L' d' C':=by
 obtain⟨hnb,mem,⟨X0,ck0,⟨e1,e2,e3⟩,sx0⟩,sc,sec,ow,wa⟩:=R
 have dM:d' rM=d rM:=hd 0 0 (by decide) (by omega) (by omega) (by omega)
 refine⟨hnb,⟨k',M⟩,⟨X,ck,⟨?_,?_,h6⟩,sx⟩,?_,fun u hu=>?_,fun u x b r hu hx hl hp=>?_,fun u x hu hx=>?_⟩
 ·rw[hC 4 0 (by omega) (by omega) (by omega) (by omega) (by omega),hd 5 0 (by decide) (by omega) (by omega) (by omega)];exact e1
 ·rw[hC 5 0 (by omega) (by omega) (by omega) (by omega) (by omega),dM,hd 6 0 (by decide) (by omega) (by omega) (by omega)];exact e2
 ·rw[hC 20 0 (by omega) (by omega) (by omega) (by omega) (by omega)];exact sc
 ·by_cases c:u=t
  ·subst c;exact hs
  ·rw[hS u c]
   exact(sec u hu).of (hC 8 u (by omega) (by omega) (by omega) (by omega) (by omega)) (hC 9 u (by omega) (by omega) (by omega) (by omega) (by omega)) (hC 15 u (by omega) (by omega) (by omega) (by omega) (by omega)) (hd 9 u (by simp) (by omega) (by omega) (by omega)) (hd 15 u (by simp) (by omega) (by omega) (by omega)) dM
 ·rw[hK];rw[hX] at hx;exact ow u x b r hu hx hl hp
 ·rw[hX] at hx
  obtain⟨off,fl,Lf,b,r,w⟩:=wa u x hu hx
  exact⟨off,fl,Lf,b,r,w.of hk (hC 10 u (by omega) (by omega) (by omega) (by omega) (by omega)) (hC 11 u (by omega) (by omega) (by omega) (by omega) (by omega)) (hC 12 u (by omega) (by omega) (by omega) (by omega) (by omega)) (hC 13 u (by omega) (by omega) (by omega) (by omega) (by omega)) (hd 5 0 (by decide) (by omega) (by omega) (by omega)) (hd 11 u (by simp) (by omega) (by omega) (by omega)) (hd 12 u (by simp) (by omega) (by omega) (by omega)) (hd 13 u (by simp) (by omega) (by omega) (by omega)) dM⟩
end Go.Proofs.YtbceiadaihphaaaGreat
namespace Go.Proofs.YtbceiadaihphaaaGreat
open Go.Am
theorem IP {s:GS} {t b:Nat} (h:s.S t = .ct b):s.tv t={ s with S:=fs s.S t (.seen b (s.G b)) }:=by unfold GS.tv;rw[h]
theorem Fh {s:GS} {t b:Nat} {sd:Bool} (h:s.S t = .seen b sd):s.tv t={ s with S:=fs s.S t (.bB b sd) }:=by unfold GS.tv;rw[h]
theorem zA.same {ns:Nat} {s s':GS} {d d':Rl→Nat} {X:List jy} (sx:zA ns s d X) (hd:∀ u,s.S u ≠ .no→d' (15,u)=d (15,u)) (h:∀ u,s'.S u = .no↔s.S u = .no):zA ns s' d' X:=
 ⟨sx.nodup,fun e he=>by
  obtain⟨u,a1,a2,a3,a4⟩:=sx.mem e he
  exact⟨u,a1,a2,by rw[hd u a4];exact a3,fun q=>a4 ((h u).1 q)⟩,fun t ht hn=>sx.all t ht fun q=>hn ((h t).2 q)⟩
theorem oR {ns:Nat} {s s':GS} {t:Nat} {g:fX} {b:Nat} {sd:Bool} (ht:t<ns) (hS:s'.S=fs s.S t g) (h1:s.S t ≠ .bB b sd) (h2:g ≠ .bB b sd):s'.cnt ns b sd=s.cnt ns b sd:=by
 have h:=uZ (f:=s.S) (g:=g) (q := .bB b sd) ns ht
 rw[if_neg h1,if_neg h2] at h
 unfold GS.cnt;rw[hS];exact h
theorem zC {ns nb:Nat} (cq:0<ns∧ns≤64) {h:PT aj} {n:Nat} {d:Rl→Nat} {C:Rl→Option aj} {s:GS} {L:List Value} {t v:Nat} (S:St h n d C) (R:gP ns nb s L d C) (ht:t<ns) (hv:v<64) (he:(s.S t).br=false) (hi:(s.S t).isIn=false):
  b9 Tryz.prog OP 69 [pt (d (4,0)),I6 t,I6 t,I6 v] h n fun r h' n'=>∃ d' C',r=dY [pt (d' (8,t)),I6 0]∧St h' n' d' C'∧gP ns nb ((g_ ns nb).enter s t v) L d' C'∧Fr d C d' C' t:=by
 have hno:s.S t = .no:=by cases q:s.S t<;>rw[q] at he hi<;>simp_all [fX.br,fX.isIn]
 have R0:=R
 obtain⟨⟨hn0,hn1⟩,⟨k,M⟩,⟨X,ck,E,sx⟩,sc,sec,ow,wa⟩:=R
 have hlk:=M.len
 obtain⟨kk,r,h',n',e,p,q,g,q1,q2,q3,q4,rfl,S'⟩:=Ip (t:=t) (s:=t) (base:=0) (th:=t) (v:=v) S E ⟨by omega,by omega⟩ (by omega) ht ⟨by omega,by omega⟩ ⟨hn0,hn1⟩ ⟨by omega,by omega⟩ (fun e he hq=>by
  obtain⟨u,a1,a2,a3,a4⟩:=sx.mem e he
  have:u=t:=by omega
  subst this;exact a4 hno)
 have Y8:zA ns ((g_ ns nb).enter s t v) (upd (upd (upd d (15,t) g) (9,t) q) (8,t) p) (X++[((t:Int),pt g,ck)]):=by
  refine⟨fun i j e f h1 h2 h3=>?_,fun e he=>?_,fun u hu hn=>?_⟩
  ·have new:∀ i e,(X++[((t:Int),pt g,ck)])[i]? = some e→(i<X.length∧X[i]? = some e)∨(i=X.length∧e=((t:Int),pt g,ck)):=fun i e h=>by
    by_cases c:i<X.length
    ·exact .inl ⟨c,by rw[List.getElem?_append_left c] at h;exact h⟩
    ·rw[List.getElem?_append_right (by omega)] at h
     by_cases c2:i=X.length
     ·subst c2;simp at h;exact .inr ⟨rfl,h.symm⟩
     ·rw[List.getElem?_eq_none (by simp;omega)] at h;simp at h
   have old:∀ e∈X,e.1≠(t:Int):=fun e he hq=>by
    obtain⟨u,a1,a2,a3,a4⟩:=sx.mem e he
    have:u=t:=by omega
    subst this;exact a4 hno
   rcases new i e h1 with ⟨_,c1⟩ | ⟨c1,rfl⟩
   ·rcases new j f h2 with ⟨_,c2⟩ | ⟨c2,rfl⟩
    ·exact sx.nodup i j e f c1 c2 h3
    ·exact absurd h3 (old e (List.mem_of_getElem? c1))
   ·rcases new j f h2 with ⟨_,c2⟩ | ⟨c2,rfl⟩
    ·exact absurd h3.symm (old f (List.mem_of_getElem? c2))
    ·omega
  ·rcases List.mem_append.1 he with c |c
   ·obtain⟨u,a1,a2,a3,a4⟩:=sx.mem e c
    have cu:u≠t:=fun q=>by subst q;exact a4 hno
    exact⟨u,a1,a2,rE a3,by show fs s.S t _ u≠_;rw[az cu];exact a4⟩
   ·simp at c;subst c
    exact⟨t,ht,rfl,rR,by show fs s.S t _ t≠_;rw[aA];simp⟩
  ·have hn':fs s.S t (.ct (v%nb)) u ≠ .no:=hn
   by_cases cu:u=t
   ·subst cu;exact⟨_,List.mem_append_right _ (List.mem_singleton.2 rfl),rfl⟩
   ·rw[az cu] at hn'
    obtain⟨e,a1,a2⟩:=sx.all u hu hn'
    exact⟨e,List.mem_append_left _ a1,a2⟩
 have hw:wG ns ((g_ ns nb).enter s t v)=wG ns s:=by
  funext j
  refine lZ (s:=s) (s':=(g_ ns nb).enter s t v) (i0:=j+1) (fun b _=>rfl) (fun b sd _=>oR (g := .ct (v%nb)) ht rfl (by rw[hno];simp) (by simp)) (fun b _=>rfl) j (by omega)
 refine⟨kk,_,h',n',e,_,_,rR,S',u5 (k':=k) (X:=X++[((t:Int),pt g,ck)]) (ck:=ck+1) (L':=L) R0 ht (Nat.le_refl _) (fun u c=>az c) rfl rfl (fun a b h1 h2 h3 h4 h5=>?_) (fun a b h1 h2 h3 h4=>?_) ?_ ?_ Y8 ?_,?_⟩
 ·rw[ay (by simp;omega),ay (by simp;omega),ay (by simp;omega),ay (by simp;omega)]
 ·rw[ay (by simp;omega),ay (by simp;omega),ay (by simp;omega)]
 ·rw[hw]
  exact(((((((M.dR (by omega)).dR (by omega)).dR (by omega)).dR (by omega)).kH (by omega)).kH (by omega)).kH (by omega))
 ·simp(disch:=first |decide |assumption |omega) only[rM,rW,rL,ah,au,aR,aG]
 ·show kK nb (fs s.S t (.ct (v%nb)) t) _ _ t
  rw[aA]
  exact⟨Nat.mod_lt _ hn0,rR,rT,rR⟩
 ·exact⟨fun a b c=>⟨rR,rR⟩,fun u c=>⟨rR,rR⟩,rR,rR⟩
theorem zD {ns nb:Nat} (cq:0<ns∧ns≤64) {h:PT aj} {n:Nat} {d:Rl→Nat} {C:Rl→Option aj} {s:GS} {L:List Value} {t:Nat} (S:St h n d C) (R:gP ns nb s L d C) (hL:L.length≤540000) (ht:t<ns) (he:(s.S t).br=true):
  b9 Tryz.prog OP 57 [pt (d (8,t))] h n fun r h' n'=>∃ d' C',r=dY [U8 (sH s t),.bool !(g_ ns nb).br ((g_ ns nb).aP s t) t]∧St h' n' d' C'∧gP ns nb ((g_ ns nb).aP s t) (L++Ki ns s t) d' C'∧Fr d C d' C' t∧d' (8,t)=d (8,t):=by
 have R0:=R
 obtain⟨⟨hn0,hn1⟩,⟨k,M⟩,⟨X,ck,E,sx⟩,sc,sec,ow,wa⟩:=R
 have hlk:=M.len
 have ef:∀ f,(nl (4*nb) f).length=4*nb:=fun f=>aV
 have hrow:=sec t ht
 cases hS:s.S t with
 |no=>rw[hS] at he;simp[fX.br] at he
 |bB b sd=>rw[hS] at he;simp[fX.br] at he
 |ct b=>
  rw[hS] at hrow
  obtain⟨b1,b2,b3,b4⟩:=hrow
  have eq:(g_ ns nb).aP s t={ s with S:=fs s.S t (.seen b (s.G b)) }:=IP hS
  have eA:Ki ns s t=bI t (4*b:Nat) 1 ((s.G b).toNat:Int) ((s.G b).toNat:Int) false:=by unfold Ki;rw[hS]
  have eP:sH s t=15:=by unfold sH;rw[hS]
  rw[eq,eA,eP]
  have hW:(nl (4*nb) (wG ns s))[4*b]'(by rw[ef];omega)=((s.G b).toNat:Int):=by rw[cV,IJ]
  have hbt:(s.G b).toNat<2:=by cases s.G b<;>decide
  obtain⟨kk,r,h',n',e,g,q1,q2,rfl,S'⟩:=L_ (n:=ns) (nb:=nb) (t:=t) (s:=t) (ba:=4*b) (base:=0) (th:=t) (bk:=b) S M (by omega) ⟨by omega,by omega⟩ ⟨by omega,by omega⟩ (by omega) (by omega) (by rw[ef];omega) (by rw[ef];omega) hW ⟨by omega,by omega⟩ b2 b3 b4
  have hw:wG ns ({ s with S:=fs s.S t (.seen b (s.G b)) }:GS)=wG ns s:=by
   funext j
   exact lZ (s:=s) (s':=({ s with S:=fs s.S t (.seen b (s.G b)) }:GS)) (i0:=j+1) (fun b _=>rfl) (fun b' sd _=>oR (g := .seen b (s.G b)) ht rfl (by rw[hS];simp) (by simp)) (fun b _=>rfl) j (by omega)
  refine⟨kk,_,h',n',e,_,_,?_,S',u5 (k':=k+1) (X:=X) (ck:=ck) (L':=L++bI t (4*b:Nat) 1 ((s.G b).toNat:Int) ((s.G b).toNat:Int) false) R0 ht (by rw[List.length_append];omega) (fun u c=>az c) rfl rfl (fun a b h1 h2 h3 h4 h5=>?_) (fun a b h1 h2 h3 h4=>?_) ?_ ?_ (sx.same (fun u _=>rR) fun u=>?_) ?_,?_,rR⟩
  ·show _=dY [_,.bool !((fs s.S t _ t).br)]
   rw[aA];rfl
  ·rw[ay (by simp;omega),aG h1]
  ·rw[ay h1]
  ·rw[hw]
   exact(dP.next (L:=L) (W:=nl (4*nb) (wG ns s)) rfl (by rw[List.length_append,M.len];show _+6=_;omega)).dR (by omega)
  ·simp(disch:=first |decide |assumption |omega) only[rM,rW,rL,ah,au,aR,aG];exact E.secs
  ·show fs s.S t _ u=_↔_
   by_cases c:u=t
   ·subst c;rw[aA,hS];simp
   ·rw[az c]
  ·show kK nb (fs s.S t _ t) _ _ t
   rw[aA]
   refine⟨b1,rE b2,rE b3,by simp(disch:=first |decide |assumption |omega) only[rM,rW,rL,ah,au,aR,aG];rw[show (0:Int)+4*(b:Int)+1+((s.G b).toNat:Int)=((4*b+1+(s.G b).toNat:Nat):Int) by omega]⟩
  ·exact⟨fun a b c=>⟨rR,rR⟩,fun u c=>⟨rR,rR⟩,rR,rR⟩
 |seen b sd=>
  rw[hS] at hrow
  obtain⟨b1,b2,b3,b4⟩:=hrow
  have eq:(g_ ns nb).aP s t={ s with S:=fs s.S t (.bB b sd) }:=Fh hS
  have eA:Ki ns s t=bI t (4*b+1+sd.toNat:Nat) 3 (s.cnt ns b sd:Int) ((s.cnt ns b sd:Int)+1) false:=by unfold Ki;rw[hS]
  have eP:sH s t=16:=by unfold sH;rw[hS]
  rw[eq,eA,eP]
  have Ke:sd.toNat<2:=by cases sd<;>decide
  have hW:(nl (4*nb) (wG ns s))[4*b+1+sd.toNat]'(by rw[ef];omega)=(s.cnt ns b sd:Int):=by rw[cV,Cd]
  have zW:=Fg (ns:=ns) (s:=s) (b:=b) (sd:=sd)
  obtain⟨kk,r,h',n',e,g,q1,q2,rfl,S'⟩:=Iq (n:=ns) (nb:=nb) (t:=t) (s:=t) (ba:=4*b+1+sd.toNat) (base:=0) (th:=t) (bk:=b) S M (by omega) ⟨by omega,by omega⟩ (by rw[ef];omega) (by rw[ef];omega) hW ⟨by omega,by omega⟩ b2 b3 b4
  have hcn:({ s with S:=fs s.S t (.bB b sd) }:GS).cnt ns b sd=s.cnt ns b sd+1:=by
   have h:=uZ (f:=s.S) (g := .bB b sd) (q := .bB b sd) ns ht
   rw[if_neg (by rw[hS];simp),if_pos rfl] at h
   exact h
  have dr:(nl (4*nb) (wG ns s)).set (4*b+1+sd.toNat) ((s.cnt ns b sd:Int)+1)=nl (4*nb) (wG ns ({ s with S:=fs s.S t (.bB b sd) }:GS)):=jz (by rw[Cd,hcn];omega) fun j _ c=>lZ (s:=s) (s':=({ s with S:=fs s.S t (.bB b sd) }:GS)) (fun b _=>rfl) (fun b' xN hne=>oR (g := .bB b sd) ht rfl (by rw[hS];simp) (fun q=>by injection q with q1 q2;subst q1 q2;exact hne rfl)) (fun b _=>rfl) j c
  rw[dr] at S'
  refine⟨kk,_,h',n',e,_,_,?_,S',u5 (k':=k+1) (X:=X) (ck:=ck) (L':=L++bI t (4*b+1+sd.toNat:Nat) 3 (s.cnt ns b sd:Int) ((s.cnt ns b sd:Int)+1) false) R0 ht (by rw[List.length_append];omega) (fun u c=>az c) rfl rfl (fun a b h1 h2 h3 h4 h5=>?_) (fun a b h1 h2 h3 h4=>?_) ?_ ?_ (sx.same (fun u _=>rR) fun u=>?_) ?_,?_,rR⟩
  ·show _=dY [_,.bool !((fs s.S t _ t).br)]
   rw[aA];rfl
  ·rw[ay (by simp;omega),aG h1]
  ·rw[ay h1]
  ·exact(dP.next (L:=L) (W:=nl (4*nb) (wG ns s)) (by rw[ef,ef]) (by rw[List.length_append,M.len];show _+6=_;omega)).dR (by omega)
  ·simp(disch:=first |decide |assumption |omega) only[rM,rW,rL,ah,au,aR,aG];exact E.secs
  ·show fs s.S t _ u=_↔_
   by_cases c:u=t
   ·subst c;rw[aA,hS];simp
   ·rw[az c]
  ·show kK nb (fs s.S t _ t) _ _ t
   rw[aA]
   exact⟨b1,rR⟩
  ·exact⟨fun a b c=>⟨rR,rR⟩,fun u c=>⟨rR,rR⟩,rR,rR⟩
theorem Cg {ns nb:Nat} (cq:0<ns∧ns≤64) {h:PT aj} {n:Nat} {d:Rl→Nat} {C:Rl→Option aj} {s:GS} {L:List Value} {t:Nat} (S:St h n d C) (R:gP ns nb s L d C) (hL:L.length≤540000) (ht:t<ns) (hi:(s.S t).isIn=true):
  b9 Tryz.prog OP 60 [pt (d (4,0)),I6 t,I6 t] h n fun r h' n'=>∃ d' C',r=dY [U8 16,I6 0]∧St h' n' d' C'∧gP ns nb ((g_ ns nb).exit s t) (L++OM ns s t) d' C'∧Fr d C d' C' t:=by
 have R0:=R
 obtain⟨⟨hn0,hn1⟩,⟨k,M⟩,⟨X,ck,E,sx⟩,sc,sec,ow,wa⟩:=R
 have hlk:=M.len
 have ef:∀ f,(nl (4*nb) f).length=4*nb:=fun f=>aV
 have hrow:=sec t ht
 cases hS:s.S t with
 |no=>rw[hS] at hi;simp[fX.isIn] at hi
 |ct b=>rw[hS] at hi;simp[fX.isIn] at hi
 |seen b sd=>rw[hS] at hi;simp[fX.isIn] at hi
 |bB b sd=>
  have eA:OM ns s t=bI t (4*b+1+sd.toNat:Nat) 3 (s.cnt ns b sd:Int) ((s.cnt ns b sd:Int)-1) false:=by unfold OM;rw[hS]
  rw[eA]
  clear eA
  rw[hS] at hrow
  obtain⟨b1,b4⟩:=hrow
  have Ke:sd.toNat<2:=by cases sd<;>decide
  have hW:(nl (4*nb) (wG ns s))[4*b+1+sd.toNat]'(by rw[ef];omega)=(s.cnt ns b sd:Int):=by rw[cV,Cd]
  have zW:=Fg (ns:=ns) (s:=s) (b:=b) (sd:=sd)
  have hcp:=GS.uW (s:=s) ht hS
  obtain⟨x,hx,hx1⟩:=sx.all t ht (by rw[hS];simp)
  obtain⟨j,hj⟩:=List.getElem?_of_mem hx
  obtain⟨u,u1,u2,u3,u4⟩:=sx.mem x hx
  obtain rfl:u=t:=by omega
  obtain⟨kx,vx,cx⟩:=x
  simp only at hx1 u3
  subst hx1 u3
  obtain⟨kk,r,h',n',e,g,q1,q2,rfl,S'⟩:=Mb (s:=u) (ba:=4*b+1+sd.toNat) (base:=0) (th:=u) S E M (by omega) ⟨by omega,by omega⟩ (by omega) ht hj (fun m e hm he hq=>by
   have:=sx.nodup m j e _ he hj hq
   omega) (by rw[ef];omega) (by rw[ef];omega) hW ⟨by omega,by omega⟩ b4
  have hcn:((g_ ns nb).exit s u).cnt ns b sd+1=s.cnt ns b sd:=by
   have h:=uZ (f:=s.S) (g := .no) (q := .bB b sd) ns ht
   rw[if_pos hS,if_neg (by simp)] at h
   exact h
  have dr:(nl (4*nb) (wG ns s)).set (4*b+1+sd.toNat) ((s.cnt ns b sd:Int)-1)=nl (4*nb) (wG ns ((g_ ns nb).exit s u)):=jz (by rw[Cd];omega) fun j _ c=>lZ (s:=s) (s':=(g_ ns nb).exit s u) (fun b _=>rfl) (fun b' xN hne=>oR (g := .no) ht rfl (fun q=>by rw[hS] at q;injection q with q1 q2;subst q1 q2;exact hne rfl) (by simp)) (fun b _=>rfl) j c
  rw[dr] at S'
  have Y8:zA ns ((g_ ns nb).exit s u) (upd d rL g) (X.eraseIdx j):=by
   have key:∀ i e,(X.eraseIdx j)[i]? = some e→∃ i',X[i']? = some e∧i'≠j∧i'=(if i<j then i else i+1):=fun i e h=>by
    rw[List.getElem?_eraseIdx] at h
    split at h
    ·rename_i c;exact⟨i,h,by omega,by rw[if_pos c]⟩
    ·rename_i c;exact⟨i+1,h,by omega,by rw[if_neg c]⟩
   refine⟨fun i1 i2 e f h1 h2 h3=>?_,fun e he=>?_,fun w hw hn=>?_⟩
   ·obtain⟨j1,c1,c2,c3⟩:=key i1 e h1
    obtain⟨j2,c4,c5,c6⟩:=key i2 f h2
    have:=sx.nodup j1 j2 e f c1 c4 h3
    split at c3<;>split at c6<;>omega
   ·obtain⟨i,hi'⟩:=List.getElem?_of_mem he
    obtain⟨i',c1,c2,_⟩:=key i e hi'
    obtain⟨w,a1,a2,a3,a4⟩:=sx.mem e (List.mem_of_getElem? c1)
    have cw:w≠u:=fun q=>by
     subst q
     exact c2 (sx.nodup i' j _ _ c1 hj a2)
    exact⟨w,a1,a2,rE a3,by show fs s.S u .no w≠_;rw[az cw];exact a4⟩
   ·have hn':fs s.S u .no w ≠ .no:=hn
    have cw:w≠u:=fun q=>by subst q;rw[aA] at hn';exact hn' rfl
    rw[az cw] at hn'
    obtain⟨e,a1,a2⟩:=sx.all w hw hn'
    obtain⟨i,hi'⟩:=List.getElem?_of_mem a1
    have ci:i≠j:=fun q=>by
     subst q
     rw[hj] at hi'
     obtain rfl:=Option.some.inj hi'
     simp only at a2
     omega
    refine⟨e,?_,a2⟩
    rw[List.mem_iff_getElem?]
    by_cases c:i<j
    ·exact⟨i,by rw[List.getElem?_eraseIdx,if_pos c];exact hi'⟩
    ·exact⟨i-1,by rw[List.getElem?_eraseIdx,if_neg (by omega),show i-1+1=i by omega];exact hi'⟩
  refine⟨kk,_,h',n',e,_,_,rfl,S',u5 (k':=k+1) (X:=X.eraseIdx j) (ck:=ck) (L':=L++bI u (4*b+1+sd.toNat:Nat) 3 (s.cnt ns b sd:Int) ((s.cnt ns b sd:Int)-1) false) R0 ht (by rw[List.length_append];omega) (fun u c=>az c) rfl rfl (fun a b h1 h2 h3 h4 h5=>?_) (fun a b h1 h2 h3 h4=>?_) ?_ ?_ Y8 ?_,?_⟩
  ·rw[ay (by simp;omega),aG h1]
  ·rw[ay h1]
  ·exact(dP.next (L:=L) (W:=nl (4*nb) (wG ns s)) (by rw[ef,ef]) (by rw[List.length_append,M.len];show _+6=_;omega)).dR (by omega)
  ·simp(disch:=first |decide |assumption |omega) only[rM,rW,rL,ah,au,aR,aG]
  ·show kK nb (fs s.S u _ u) _ _ u
   rw[aA];trivial
  ·exact⟨fun a b c=>⟨rR,rR⟩,fun u c=>⟨rR,rR⟩,rR,rR⟩
end Go.Proofs.YtbceiadaihphaaaGreat
