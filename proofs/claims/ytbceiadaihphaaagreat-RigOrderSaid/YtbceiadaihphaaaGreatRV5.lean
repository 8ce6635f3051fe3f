/-
  A part of the proof: contracts of inner functions.
-/
import Derived.Test.YtbceiadaihphaaaGreatAmV3
import Derived.Test.YtbceiadaihphaaaGreatPU7
import Derived.Test.YtbceiadaihphaaaGreatPK
import Derived.Test.YtbceiadaihphaaaGreatPG
set_option linter.unusedVariables false
set_option linter.unusedSimpArgs false
namespace Go.Proofs.YtbceiadaihphaaaGreat
open Go.Am
def fs {α:Type} (f:Nat→α) (i:Nat) (x:α):Nat→α:=fun j=>if j=i then x else f j
theorem aA {α:Type} {f:Nat→α} {i:Nat} {x:α}:fs f i x i=x:=if_pos rfl
theorem az {α:Type} {f:Nat→α} {i j:Nat} {x:α} (h:j≠i):fs f i x j=f j:=if_neg h
theorem wW {α:Type} {f:Nat→α} {i:Nat} {x:α} (h:f i=x):fs f i x=f:=by
 funext j;unfold fs;split
 ·rename_i c;rw[c,h]
 ·rfl
structure gT where
 σ:Type
 br:σ→Nat→Bool
 bB:σ→Nat→Bool
 wt:σ→Nat→Bool
 enter:σ→Nat→Nat→σ
 aP:σ→Nat→σ
 exit:σ→Nat→σ
 wait:σ→Nat→Nat→σ
 aQ:σ→Nat→σ
structure gT.Fits (e:gT):Prop where
 enter:∀ s t v,e.bB s t=false→(∀ u,e.br (e.enter s t v) u=if u=t then true else e.br s u)∧(∀ u,e.bB (e.enter s t v) u=e.bB s u)∧∀ u,e.wt (e.enter s t v) u=e.wt s u
 aP:∀ s t,e.br s t=true→e.bB s t=false→(∀ u,u≠t→e.br (e.aP s t) u=e.br s u)∧(∀ u,e.bB (e.aP s t) u=if u=t then !e.br (e.aP s t) t else e.bB s u)∧∀ u,e.wt (e.aP s t) u=e.wt s u
 exit:∀ s t,e.bB s t=true→(∀ u,e.br (e.exit s t) u=e.br s u)∧(∀ u,e.bB (e.exit s t) u=if u=t then false else e.bB s u)∧∀ u,e.wt (e.exit s t) u=e.wt s u
 wait:∀ s t v,(∀ u,e.br (e.wait s t v) u=e.br s u)∧(∀ u,e.bB (e.wait s t v) u=e.bB s u)∧∀ u,e.wt (e.wait s t v) u=if u=t then true else e.wt s u
 aQ:∀ s t,(∀ u,e.br (e.aQ s t) u=e.br s u)∧(∀ u,e.bB (e.aQ s t) u=e.bB s u)∧∀ u,u≠t→e.wt (e.aQ s t) u=e.wt s u
def One (e:gT) (s:e.σ):Prop:=∀ t,(e.br s t=true→e.bB s t=false∧e.wt s t=false)∧(e.bB s t=true→e.wt s t=false)
structure gT.fq (e:gT) (ns:Nat) (aO:e.σ→Nat→Nat→Prop) (guard:e.σ→Nat→Nat→Prop):Prop where
 fits:e.Fits
 Mg:∀ s t v,aO (e.enter s t v) t v
 IB:∀ s t v i w,i≠t→aO s i w→aO (e.enter s t v) i w
 wX:∀ s t i w,aO s i w→aO (e.aP s t) i w
 RG:∀ s t i w,i≠t→aO s i w→aO (e.exit s t) i w
 RH:∀ s t st i w,aO s i w→aO (e.wait s t st) i w
 Mh:∀ s t i w,aO s i w→aO (e.aQ s t) i w
 E0:∀ s t v u i,e.wt s u=true→guard s u i→e.bB s i=true→i≠t→guard (e.enter s t v) u i
 E1:∀ s t u i,e.wt s u=true→guard s u i→e.bB s i=true→i≠t→guard (e.aP s t) u i
 Kf:∀ s t u i,e.wt s u=true→guard s u i→e.bB s i=true→i≠t→guard (e.exit s t) u i
 Kg:∀ s t st u i,e.wt s u=true→guard s u i→e.bB s i=true→u≠t→guard (e.wait s t st) u i
 zi:∀ s t st i v,e.bB s i=true→e.br s i=false→i<ns→aO s i v→v<64→st<2^64→st.testBit v=true→guard (e.wait s t st) t i
 zj:∀ s t u i,e.wt s u=true→guard s u i→e.bB s i=true→i<ns→e.wt s t=true→u≠t→guard (e.aQ s t) u i
 Kh:∀ s t i v,e.wt s t=true→guard s t i→e.bB s i=true→i<ns→aO s i v→v<64→e.wt (e.aQ s t) t=true∧guard (e.aQ s t) t i
end Go.Proofs.YtbceiadaihphaaaGreat
namespace Go.Proofs.YtbceiadaihphaaaGreat
open Go.Am
structure FS where
 N:Nat→Nat
 E:Nat→Bool
 X:Nat→Option FW
abbrev jV (ns:Nat):gT where
 σ:=FS
 br s t:=s.E t
 bB s t:=decide (s.N t%2=1)
 wt s t:=(s.X t).isSome
 enter s t v:={ s with E:=fs s.E t true }
 aP s t:={ s with N:=fs s.N t (s.N t+1),E:=fs s.E t false }
 exit s t:={ s with N:=fs s.N t (s.N t+1) }
 wait s t st:={ s with X:=fs s.X t (some ⟨0,false,0,false⟩) }
 aQ s t:=match s.X t with
  |none=>s
  |some x=>{ s with X:=fs s.X t (if (x.step ns (s.N x.slot)).ended=true then none else some (x.step ns (s.N x.slot))) }
theorem i_ {ns:Nat} {s:FS} {t:Nat} {x:FW} (h:s.X t=some x):(jV ns).aQ s t={ s with X:=fs s.X t (if (x.step ns (s.N x.slot)).ended=true then none else some (x.step ns (s.N x.slot))) }:=by
 show (match s.X t with |none=>s |some x=>_)=_
 rw[h]
theorem lY {ns:Nat} {s:FS} {t:Nat} (h:s.X t=none):(jV ns).aQ s t=s:=by
 show (match s.X t with |none=>s |some x=>_)=_
 rw[h]
theorem BW (ns:Nat):(jV ns).Fits:=by
 refine⟨fun s t v _=>⟨fun u=>rfl,fun u=>rfl,fun u=>rfl⟩,fun s t h1 h2=>⟨fun u c=>az c,fun u=>?_,fun u=>rfl⟩,fun s t h=>⟨fun u=>rfl,fun u=>?_,fun u=>rfl⟩,fun s t v=>⟨fun u=>rfl,fun u=>rfl,fun u=>?_⟩,fun s t=>?_⟩
 ·have h2':decide (s.N t%2=1)=false:=h2
  show decide (fs s.N t (s.N t+1) u%2=1)=if u=t then !(fs s.E t false t) else decide (s.N u%2=1)
  by_cases c:u=t
  ·subst c
   rw[if_pos rfl,aA,aA]
   simp only[decide_eq_false_iff_not] at h2'
   simp only[Bool.not_false,decide_eq_true_eq]
   omega
  ·rw[if_neg c,az c]
 ·have h':decide (s.N t%2=1)=true:=h
  show decide (fs s.N t (s.N t+1) u%2=1)=if u=t then false else decide (s.N u%2=1)
  by_cases c:u=t
  ·subst c
   rw[if_pos rfl,aA]
   simp only[decide_eq_true_eq] at h'
   simp only[decide_eq_false_iff_not]
   omega
  ·rw[if_neg c,az c]
 ·show (fs s.X t _ u).isSome=if u=t then true else (s.X u).isSome
  by_cases c:u=t
  ·subst c;rw[if_pos rfl,aA];rfl
  ·rw[if_neg c,az c]
 ·cases hx:s.X t with
  |none=>rw[lY hx];exact⟨fun u=>rfl,fun u=>rfl,fun u _=>rfl⟩
  |some x=>
   rw[i_ hx]
   exact⟨fun u=>rfl,fun u=>rfl,fun u c=>by show (fs s.X t _ u).isSome=_;rw[az c]⟩
def zk (s:FS) (u i:Nat):Prop:=∃ x,s.X u=some x∧x.ended=false∧(x.slot<i∨x.slot=i∧(x.again=true→x.first=s.N i))
theorem E2 (ns:Nat):(jV ns).fq ns (fun _ _ _=>True) zk:=by
 refine⟨BW ns,fun _ _ _=>trivial,fun _ _ _ _ _ _ _=>trivial,fun _ _ _ _ _=>trivial,fun _ _ _ _ _ _=>trivial,fun _ _ _ _ _ _=>trivial,fun _ _ _ _ _=>trivial,fun s t v u i h1 h2 h3 h4=>h2,fun s t u i h1 h2 h3 h4=>?_,fun s t u i h1 h2 h3 h4=>?_,fun s t st u i h1 h2 h3 h4=>?_,fun s t st i v h1 h2 h3 h4 h5 h6 h7=>?_,fun s t u i h1 h2 h3 h4 h5 h6=>?_,fun s t i v h1 h2 h3 h4 h5 h6=>?_⟩
 ·obtain⟨x,q1,q0,q2⟩:=h2
  exact⟨x,q1,q0,q2.imp id fun q=>⟨q.1,fun a=>by rw[q.2 a];show _=((fs s.N t _ i:Nat):Int);rw[az h4]⟩⟩
 ·obtain⟨x,q1,q0,q2⟩:=h2
  exact⟨x,q1,q0,q2.imp id fun q=>⟨q.1,fun a=>by rw[q.2 a];show _=((fs s.N t _ i:Nat):Int);rw[az h4]⟩⟩
 ·obtain⟨x,q1,q0,q2⟩:=h2
  exact⟨x,(az h4).trans q1,q0,q2⟩
 ·refine⟨_,aA,rfl,?_⟩
  by_cases c:i=0
  ·exact .inr ⟨c.symm,fun a=>by simp at a⟩
  ·exact .inl (by show 0<i;omega)
 ·obtain⟨x,q1,q0,q2⟩:=h2
  cases hx:s.X t with
  |none=>rw[lY hx];exact⟨x,q1,q0,q2⟩
  |some y=>rw[i_ hx];exact⟨x,(az h6).trans q1,q0,q2⟩
 ·obtain⟨x,q1,q0,q2⟩:=h2
  have h3':decide (s.N i%2=1)=true:=h3
  simp only[decide_eq_true_eq] at h3'
  rw[i_ q1]
  have key:(x.step ns (s.N x.slot)).ended=false∧((x.step ns (s.N x.slot)).slot<i∨(x.step ns (s.N x.slot)).slot=i∧((x.step ns (s.N x.slot)).again=true→(x.step ns (s.N x.slot)).first=s.N i)):=by
   unfold FW.step FW.next
   rcases q2 with c | ⟨c,ha⟩
   ·split
    ·split
     ·exact⟨q0,.inl c⟩
     ·refine⟨decide_eq_false (by omega),?_⟩
      by_cases c2:x.slot+1=i
      ·exact .inr ⟨c2,fun a=>by simp at a⟩
      ·exact .inl (by show x.slot+1<i;omega)
    ·split
     ·refine⟨decide_eq_false (by omega),?_⟩
      by_cases c2:x.slot+1=i
      ·exact .inr ⟨c2,fun a=>by simp at a⟩
      ·exact .inl (by show x.slot+1<i;omega)
     ·exact⟨rfl,.inl c⟩
   ·subst c
    split
    ·rename_i c1
     rw[if_pos (ha c1).symm]
     exact⟨q0,.inr ⟨rfl,ha⟩⟩
    ·rw[if_neg (by
      have e2:((s.N x.slot:Nat):Int).tmod 2=((s.N x.slot%2:Nat):Int):=rfl
      rw[e2];omega)]
     exact⟨rfl,.inr ⟨rfl,fun _=>rfl⟩⟩
  show ((fs s.X t _ t).isSome=true)∧_
  rw[aA,key.1,if_neg (by simp)]
  exact⟨rfl,_,aA,key⟩
structure ES where
 N:Nat→Nat
 V:Nat→Nat
 E:Nat→Nat
 A:Nat→Nat
 X:Nat→Option (EW×Nat)
def ES.word (s:ES) (x:EW):Nat:=if x.st=1 then s.V x.slot else s.N x.slot
abbrev iy (ns:Nat):gT where
 σ:=ES
 br s t:=decide (s.E t≠0)
 bB s t:=decide (s.N t%2=1)
 wt s t:=(s.X t).isSome
 enter s t v:={ s with E:=fs s.E t 1,A:=fs s.A t v }
 aP s t:=if s.E t=1 then { s with V:=fs s.V t (s.A t),E:=fs s.E t 2 } else { s with N:=fs s.N t (s.N t+1),E:=fs s.E t 0 }
 exit s t:={ s with N:=fs s.N t (s.N t+1) }
 wait s t st:={ s with X:=fs s.X t (some (⟨0,0,0⟩,st)) }
 aQ s t:=match s.X t with
  |none=>s
  |some x=>{ s with X:=fs s.X t (if (x.1.step ns x.2 (s.word x.1)).st=3 then none else some (x.1.step ns x.2 (s.word x.1),x.2)) }
theorem gO {ns:Nat} {s:ES} {t st:Nat} {x:EW} (h:s.X t=some (x,st)):(iy ns).aQ s t={ s with X:=fs s.X t (if (x.step ns st (s.word x)).st=3 then none else some (x.step ns st (s.word x),st)) }:=by
 show (match s.X t with |none=>s |some x=>_)=_
 rw[h]
theorem jv {ns:Nat} {s:ES} {t:Nat} (h:s.X t=none):(iy ns).aQ s t=s:=by
 show (match s.X t with |none=>s |some x=>_)=_
 rw[h]
theorem BX (ns:Nat):(iy ns).Fits:=by
 refine⟨fun s t v _=>⟨fun u=>?_,fun u=>rfl,fun u=>rfl⟩,fun s t h1 h2=>?_,fun s t h=>⟨fun u=>rfl,fun u=>?_,fun u=>rfl⟩,fun s t v=>⟨fun u=>rfl,fun u=>rfl,fun u=>?_⟩,fun s t=>?_⟩
 ·show decide (fs s.E t 1 u≠0)=if u=t then true else decide (s.E u≠0)
  by_cases c:u=t
  ·subst c;rw[if_pos rfl,aA];rfl
  ·rw[if_neg c,az c]
 ·have h2':decide (s.N t%2=1)=false:=h2
  simp only[decide_eq_false_iff_not] at h2'
  have e:(iy ns).aP s t=if s.E t=1 then { s with V:=fs s.V t (s.A t),E:=fs s.E t 2 } else { s with N:=fs s.N t (s.N t+1),E:=fs s.E t 0 }:=rfl
  rw[e]
  by_cases c1:s.E t=1
  ·rw[if_pos c1]
   refine⟨fun u c=>?_,fun u=>?_,fun u=>rfl⟩
   ·show decide (fs s.E t 2 u≠0)=decide (s.E u≠0)
    rw[az c]
   ·show decide (s.N u%2=1)=if u=t then !(decide (fs s.E t 2 t≠0)) else decide (s.N u%2=1)
    by_cases c:u=t
    ·subst c;rw[if_pos rfl,aA];simp only[decide_eq_false h2'];rfl
    ·rw[if_neg c]
  ·rw[if_neg c1]
   refine⟨fun u c=>?_,fun u=>?_,fun u=>rfl⟩
   ·show decide (fs s.E t 0 u≠0)=decide (s.E u≠0)
    rw[az c]
   ·show decide (fs s.N t (s.N t+1) u%2=1)=if u=t then !(decide (fs s.E t 0 t≠0)) else decide (s.N u%2=1)
    by_cases c:u=t
    ·subst c
     rw[if_pos rfl,aA,aA,decide_eq_true (by omega)];rfl
    ·rw[if_neg c,az c]
 ·have h':decide (s.N t%2=1)=true:=h
  show decide (fs s.N t (s.N t+1) u%2=1)=if u=t then false else decide (s.N u%2=1)
  by_cases c:u=t
  ·subst c
   rw[if_pos rfl,aA]
   simp only[decide_eq_true_eq] at h'
   simp only[decide_eq_false_iff_not]
   omega
  ·rw[if_neg c,az c]
 ·show (fs s.X t _ u).isSome=if u=t then true else (s.X u).isSome
  by_cases c:u=t
  ·subst c;rw[if_pos rfl,aA];rfl
  ·rw[if_neg c,az c]
 ·cases hx:s.X t with
  |none=>rw[jv hx];exact⟨fun u=>rfl,fun u=>rfl,fun u _=>rfl⟩
  |some x=>
   rw[gO hx]
   exact⟨fun u=>rfl,fun u=>rfl,fun u c=>by show (fs s.X t _ u).isSome=_;rw[az c]⟩
def Mi (s:ES) (i v:Nat):Prop:=s.A i=v∧(s.E i=1∨s.V i=v)
def zm (s:ES) (u i:Nat):Prop:=∃ x st,s.X u=some (x,st)∧st<2^64∧x.st<3∧s.V i<64∧st.testBit (s.V i)=true∧(x.slot<i∨x.slot=i∧(x.st≠0→x.seen=s.N i))
theorem BZ {v st:Nat} (hv:v<64) (h:st.testBit v=true):sB (v:Int) (st:Int)=true:=by
 unfold sB
 rw[decide_eq_true ⟨by omega,by omega⟩,Int.toNat_natCast,Int.toNat_natCast,h];rfl
theorem E3 (ns:Nat):(iy ns).fq ns Mi zm:=by
 refine⟨BX ns,fun s t v=>⟨aA,.inl aA⟩,fun s t v i w h1 h2=>?_,fun s t i w h=>?_,fun s t i w h1 h2=>h2,fun s t st i w h=>h,fun s t i w h=>?_,fun s t v u i h1 h2 h3 h4=>h2,fun s t u i h1 h2 h3 h4=>?_,fun s t u i h1 h2 h3 h4=>?_,fun s t st u i h1 h2 h3 h4=>?_,fun s t st i v h1 h2 h3 h4 h5 h6 h7=>?_,fun s t u i h1 h2 h3 h4 h5 h6=>?_,fun s t i v h1 h2 h3 h4 h5 h6=>?_⟩
 ·exact⟨(az h1).trans h2.1,h2.2.imp (fun q=>(az h1).trans q) id⟩
 ·have e:(iy ns).aP s t=if s.E t=1 then { s with V:=fs s.V t (s.A t),E:=fs s.E t 2 } else { s with N:=fs s.N t (s.N t+1),E:=fs s.E t 0 }:=rfl
  rw[e]
  by_cases c:i=t
  ·subst c
   split
   ·exact⟨h.1,.inr (aA.trans h.1)⟩
   ·rename_i c1
    exact⟨h.1,.inr (h.2.resolve_left c1)⟩
  ·split
   ·exact⟨h.1,h.2.imp (fun q=>(az c).trans q) fun q=>(az c).trans q⟩
   ·exact⟨h.1,h.2.imp (fun q=>(az c).trans q) id⟩
 ·cases hx:s.X t with
  |none=>rw[jv hx];exact h
  |some y=>rw[gO hx];exact h
 ·obtain⟨x,st,q1,q2,q3,q4,q5,q6⟩:=h2
  have e:(iy ns).aP s t=if s.E t=1 then { s with V:=fs s.V t (s.A t),E:=fs s.E t 2 } else { s with N:=fs s.N t (s.N t+1),E:=fs s.E t 0 }:=rfl
  rw[e]
  split
  ·have e1:fs s.V t (s.A t) i=s.V i:=az h4
   exact⟨x,st,q1,q2,q3,by show fs s.V t (s.A t) i<64;rw[e1];exact q4,by show st.testBit (fs s.V t (s.A t) i)=true;rw[e1];exact q5,q6⟩
  ·exact⟨x,st,q1,q2,q3,q4,q5,q6.imp id fun q=>⟨q.1,fun a=>by rw[q.2 a];show _=((fs s.N t _ i:Nat):Int);rw[az h4]⟩⟩
 ·obtain⟨x,st,q1,q2,q3,q4,q5,q6⟩:=h2
  exact⟨x,st,q1,q2,q3,q4,q5,q6.imp id fun q=>⟨q.1,fun a=>by rw[q.2 a];show _=((fs s.N t _ i:Nat):Int);rw[az h4]⟩⟩
 ·obtain⟨x,st,q1,q⟩:=h2
  exact⟨x,st,(az h4).trans q1,q⟩
 ·have h2':decide (s.E i≠0)=false:=h2
  simp only[ne_eq,decide_not,Bool.not_eq_eq_eq_not,Bool.not_false,decide_eq_true_eq] at h2'
  have hV:s.V i=v:=h4.2.resolve_left (by omega)
  refine⟨_,st,aA,h6,by decide,by show s.V i<64;omega,by show st.testBit (s.V i)=true;rw[hV];exact h7,?_⟩
  by_cases c:i=0
  ·exact .inr ⟨c.symm,fun a=>absurd rfl a⟩
  ·exact .inl (by show 0<i;omega)
 ·obtain⟨x,st,q1,q⟩:=h2
  cases hx:s.X t with
  |none=>rw[jv hx];exact⟨x,st,q1,q⟩
  |some y=>rw[gO hx];exact⟨x,st,(az h6).trans q1,q⟩
 ·obtain⟨x,st,q1,q2,q3,q4,q5,q6⟩:=h2
  have h3':decide (s.N i%2=1)=true:=h3
  simp only[decide_eq_true_eq] at h3'
  rw[gO q1]
  have nx:∀ y:EW,y.slot<i→(y.next ns).st<3∧((y.next ns).slot<i∨(y.next ns).slot=i∧((y.next ns).st≠0→(y.next ns).seen=s.N i)):=fun y hy=>by
   unfold EW.next
   rw[if_neg (by omega)]
   refine⟨Nat.succ_pos _,?_⟩
   by_cases c2:y.slot+1=i
   ·exact .inr ⟨c2,fun a=>absurd rfl a⟩
   ·exact .inl (by show y.slot+1<i;omega)
  have key:(x.step ns st (s.word x)).st<3∧((x.step ns st (s.word x)).slot<i∨(x.step ns st (s.word x)).slot=i∧((x.step ns st (s.word x)).st≠0→(x.step ns st (s.word x)).seen=s.N i)):=by
   unfold EW.step
   rcases q6 with c | ⟨c,ha⟩
   ·split
    ·split
     ·exact⟨Nat.lt_of_sub_pos (Nat.succ_pos _),.inl c⟩
     ·exact nx _ c
    ·split
     ·split
      ·exact⟨Nat.lt_of_sub_pos (Nat.succ_pos _),.inl c⟩
      ·exact nx _ c
     ·split
      ·exact⟨q3,.inl c⟩
      ·exact nx _ c
   ·subst c
    split
    ·rename_i c1
     have ew:s.word x=s.N x.slot:=if_neg (by omega)
     rw[if_pos (by
      rw[ew]
      have e2:((s.N x.slot:Nat):Int).tmod 2=((s.N x.slot%2:Nat):Int):=rfl
      rw[e2];omega)]
     exact⟨Nat.lt_of_sub_pos (Nat.succ_pos _),.inr ⟨rfl,fun _=>by show ((s.word x:Nat):Int)=_;rw[ew]⟩⟩
    ·rename_i c1
     split
     ·rename_i c2
      have ew:s.word x=s.V x.slot:=if_pos c2
      rw[ew,if_pos (BZ q4 q5)]
      exact⟨by show 2<3;decide,.inr ⟨rfl,fun _=>ha (by omega)⟩⟩
     ·rename_i c2
      have ew:s.word x=s.N x.slot:=if_neg c2
      rw[ew,if_pos (ha c1).symm]
      exact⟨q3,.inr ⟨rfl,ha⟩⟩
  show ((fs s.X t _ t).isSome=true)∧_
  rw[aA,if_neg (by omega)]
  exact⟨rfl,_,st,aA,q2,key.1,q4,q5,key.2⟩
end Go.Proofs.YtbceiadaihphaaaGreat
namespace Go.Proofs.YtbceiadaihphaaaGreat
open Go.Am
inductive fX where
 |no
 |ct (b:Nat)
 |seen (b:Nat) (sd:Bool)
 |bB (b:Nat) (sd:Bool)
deriving DecidableEq
structure GW where
 left:List Nat
 ph:Nat
 side:Bool
structure GS where
 S:Nat→fX
 G:Nat→Bool
 K:Nat→Option Nat
 X:Nat→Option GW
def fX.br:fX→Bool
 | .ct _=>true
 | .seen _ _=>true
 | _=>false
def fX.isIn:fX→Bool
 | .bB _ _=>true
 | _=>false
def GS.cnt (s:GS) (ns b:Nat) (sd:Bool):Nat:=(List.range ns).countP fun t=>decide (s.S t = .bB b sd)
theorem GS.uW {s:GS} {ns b i:Nat} {sd:Bool} (hi:i<ns) (h:s.S i = .bB b sd):0<s.cnt ns b sd:=List.countP_pos_iff.2 ⟨i,by simpa using hi,by simpa using h⟩
def GS.tv (s:GS) (t:Nat):GS:=match s.S t with
 | .ct b=>{ s with S:=fs s.S t (.seen b (s.G b)) }
 | .seen b sd=>{ s with S:=fs s.S t (.bB b sd) }
 | _=>s
def GS.oO (s:GS) (ns t:Nat):GS:=match s.X t with
 |some ⟨b::r,ph,sd⟩=>
  if ph=0 then (if s.K b=none then { s with K:=fs s.K b (some t),X:=fs s.X t (some ⟨b::r,1,sd⟩) } else s)
  else if ph=1 then { s with X:=fs s.X t (some ⟨b::r,2,s.G b⟩) }
  else if ph=2 then (if s.cnt ns b (!sd)=0 then { s with X:=fs s.X t (some ⟨b::r,3,sd⟩) } else s)
  else if ph=3 then { s with G:=fs s.G b (!sd),X:=fs s.X t (some ⟨b::r,4,sd⟩) }
  else if ph=4 then (if s.cnt ns b sd=0 then { s with X:=fs s.X t (some ⟨b::r,5,sd⟩) } else s)
  else { s with K:=fs s.K b none,X:=fs s.X t (if r=[] then none else some ⟨r,0,sd⟩) }
 | _=>s
abbrev g_ (ns nb:Nat):gT where
 σ:=GS
 br s t:=(s.S t).br
 bB s t:=(s.S t).isIn
 wt s t:=(s.X t).isSome
 enter s t v:={ s with S:=fs s.S t (.ct (v%nb)) }
 aP s t:=s.tv t
 exit s t:={ s with S:=fs s.S t .no }
 wait s t st:={ s with X:=fs s.X t (some ⟨dH nb (kV 64 0 st),0,false⟩) }
 aQ s t:=s.oO ns t
theorem pU {s:GS} {ns t u:Nat} (h:u≠t):(s.oO ns t).X u=s.X u:=by
 unfold GS.oO
 split
 ·repeat' split
  all_goals first |rfl |exact az h
 ·rfl
theorem wY {s:GS} {ns t:Nat}:(s.oO ns t).S=s.S:=by
 unfold GS.oO
 split
 ·repeat' split
  all_goals rfl
 ·rfl
theorem E4 {s:GS} {t:Nat}:(s.tv t).X=s.X:=by
 unfold GS.tv
 split<;>rfl
theorem Ap {s:GS} {t u:Nat} (h:u≠t):(s.tv t).S u=s.S u:=by
 unfold GS.tv
 split
 ·exact az h
 ·exact az h
 ·rfl
theorem B1 (ns nb:Nat):(g_ ns nb).Fits:=by
 refine⟨fun s t v h0=>⟨fun u=>?_,fun u=>?_,fun u=>rfl⟩,fun s t h1 h2=>⟨fun u c=>?_,fun u=>?_,fun u=>?_⟩,fun s t h=>⟨fun u=>?_,fun u=>?_,fun u=>rfl⟩,fun s t v=>⟨fun u=>rfl,fun u=>rfl,fun u=>?_⟩,fun s t=>⟨fun u=>?_,fun u=>?_,fun u c=>?_⟩⟩
 ·show (fs s.S t (.ct (v%nb)) u).br=if u=t then true else (s.S u).br
  by_cases c:u=t
  ·subst c;rw[if_pos rfl,aA];rfl
  ·rw[if_neg c,az c]
 ·show (fs s.S t (.ct (v%nb)) u).isIn=(s.S u).isIn
  by_cases c:u=t
  ·subst c;rw[aA];exact h0.symm
  ·rw[az c]
 ·show ((s.tv t).S u).br=(s.S u).br
  rw[Ap c]
 ·show ((s.tv t).S u).isIn=if u=t then !((s.tv t).S t).br else (s.S u).isIn
  by_cases c:u=t
  ·subst c
   rw[if_pos rfl]
   have h1':(s.S u).br=true:=h1
   unfold GS.tv
   cases q:s.S u with
   |no=>rw[q] at h1';simp[fX.br] at h1'
   |ct b=>show ((fs s.S u (fX.seen b (s.G b))) u).isIn = !((fs s.S u (fX.seen b (s.G b))) u).br;rw[aA];rfl
   |seen b sd=>show ((fs s.S u (fX.bB b sd)) u).isIn = !((fs s.S u (fX.bB b sd)) u).br;rw[aA];rfl
   |bB b sd=>rw[q] at h1';simp[fX.br] at h1'
  ·rw[if_neg c,Ap c]
 ·show ((s.tv t).X u).isSome=(s.X u).isSome
  rw[E4]
 ·have h':(s.S t).isIn=true:=h
  show (fs s.S t .no u).br=(s.S u).br
  by_cases c:u=t
  ·subst c;rw[aA]
   cases q:s.S u with
   |bB b sd=>rfl
   |no=>rfl
   | _=>rw[q] at h';simp[fX.isIn] at h'
  ·rw[az c]
 ·show (fs s.S t .no u).isIn=if u=t then false else (s.S u).isIn
  by_cases c:u=t
  ·subst c;rw[if_pos rfl,aA];rfl
  ·rw[if_neg c,az c]
 ·show (fs s.X t _ u).isSome=if u=t then true else (s.X u).isSome
  by_cases c:u=t
  ·subst c;rw[if_pos rfl,aA];rfl
  ·rw[if_neg c,az c]
 ·show ((s.oO ns t).S u).br=(s.S u).br
  rw[wY]
 ·show ((s.oO ns t).S u).isIn=(s.S u).isIn
  rw[wY]
 ·show ((s.oO ns t).X u).isSome=(s.X u).isSome
  rw[pU c]
def sE (nb:Nat) (s:GS) (i v:Nat):Prop:=match s.S i with
 | .no=>True
 | .ct b=>b=v%nb
 | .seen b _=>b=v%nb
 | .bB b _=>b=v%nb
def nW (s:GS) (u i:Nat):Prop:=∃ b0 r ph sd b d,s.X u=some ⟨b0::r,ph,sd⟩∧s.S i = .bB b d∧(b∈r∨b=b0∧(ph≤2∨(ph=3∨ph=4)∧d=sd))
theorem jW {s s':GS} {u i:Nat} (h:nW s u i) (hX:s'.X u=s.X u) (hS:s'.S i=s.S i):nW s' u i:=by
 obtain⟨b0,r,ph,sd,b,d,q1,q2,q3⟩:=h
 exact⟨b0,r,ph,sd,b,d,hX.trans q1,hS.trans q2,q3⟩
theorem oP {nb:Nat} {s s':GS} {i v:Nat} (h:sE nb s i v) (hS:s'.S i=s.S i):sE nb s' i v:=by
 unfold sE at*
 rw[hS];exact h
theorem E5 {s:GS} {ns t i:Nat} (hi:i<ns) (h:nW s t i):((s.oO ns t).X t).isSome=true∧nW (s.oO ns t) t i:=by
 obtain⟨b0,r,ph,sd,b,d,q1,q2,q3⟩:=h
 have hS:(s.oO ns t).S i = .bB b d:=by rw[wY];exact q2
 have key:∃ r' V1 uX xN,(s.oO ns t).X t=some ⟨V1::r',uX,xN⟩∧(b∈r'∨b=V1∧(uX≤2∨(uX=3∨uX=4)∧d=xN)):=by
  have e:s.oO ns t=if ph=0 then (if s.K b0=none then { s with K:=fs s.K b0 (some t),X:=fs s.X t (some ⟨b0::r,1,sd⟩) } else s)
   else if ph=1 then { s with X:=fs s.X t (some ⟨b0::r,2,s.G b0⟩) }
   else if ph=2 then (if s.cnt ns b0 (!sd)=0 then { s with X:=fs s.X t (some ⟨b0::r,3,sd⟩) } else s)
   else if ph=3 then { s with G:=fs s.G b0 (!sd),X:=fs s.X t (some ⟨b0::r,4,sd⟩) }
   else if ph=4 then (if s.cnt ns b0 sd=0 then { s with X:=fs s.X t (some ⟨b0::r,5,sd⟩) } else s)
   else { s with K:=fs s.K b0 none,X:=fs s.X t (if r=[] then none else some ⟨r,0,sd⟩) }:=by
   unfold GS.oO;rw[q1]
  rw[e]
  by_cases c0:ph=0
  ·rw[if_pos c0]
   split
   ·exact⟨r,b0,1,sd,aA,q3.imp id fun q=>⟨q.1,.inl (by omega)⟩⟩
   ·exact⟨r,b0,ph,sd,q1,q3⟩
  rw[if_neg c0]
  by_cases c1:ph=1
  ·rw[if_pos c1];exact⟨r,b0,2,_,aA,q3.imp id fun q=>⟨q.1,.inl (by omega)⟩⟩
  rw[if_neg c1]
  by_cases c2:ph=2
  ·rw[if_pos c2]
   split
   ·rename_i hc
    refine⟨r,b0,3,sd,aA,q3.imp id fun q=>⟨q.1,.inr ⟨.inl rfl,?_⟩⟩⟩
    have hq:=q.1
    subst hq
    cases hd:decide (d=sd) with
    |true=>simpa using hd
    |false=>
     have hn:d = !sd:=by cases d<;>cases sd<;>simp_all
     have:=GS.uW (s:=s) hi (hn ▸ q2)
     omega
   ·exact⟨r,b0,ph,sd,q1,q3⟩
  rw[if_neg c2]
  by_cases c3:ph=3
  ·rw[if_pos c3]
   refine⟨r,b0,4,sd,aA,q3.imp id fun q=>⟨q.1,.inr ⟨.inr rfl,?_⟩⟩⟩
   rcases q.2 with q |q
   ·omega
   ·exact q.2
  rw[if_neg c3]
  by_cases c4:ph=4
  ·rw[if_pos c4]
   split
   ·rename_i hc
    refine⟨r,b0,5,sd,aA,?_⟩
    rcases q3 with q | ⟨q,q'⟩
    ·exact .inl q
    ·rcases q' with q' |q'
     ·omega
     ·subst q
      have:=GS.uW (s:=s) hi (q'.2 ▸ q2)
      omega
   ·exact⟨r,b0,ph,sd,q1,q3⟩
  rw[if_neg c4]
  have hr:b∈r:=q3.resolve_right fun q=>by rcases q.2 with q |q<;>omega
  cases r with
  |nil=>simp at hr
  |cons b1 r=>
   refine⟨r,b1,0,sd,aA.trans (if_neg (by simp)),?_⟩
   rcases List.mem_cons.1 hr with q |q
   ·exact .inr ⟨q,.inl (by omega)⟩
   ·exact .inl q
 obtain⟨r',V1,uX,xN,k1,k2⟩:=key
 exact⟨by rw[k1];rfl,V1,r',uX,xN,b,d,k1,hS,k2⟩
theorem E6 {ns nb:Nat} (hnb:0<nb):(g_ ns nb).fq ns (sE nb) nW:=by
 refine⟨B1 ns nb,fun s t v=>?_,fun s t v i w h1 h2=>oP h2 (az h1),fun s t i w h=>?_,fun s t i w h1 h2=>oP h2 (az h1),fun s t st i w h=>oP h rfl,fun s t i w h=>oP h (by rw[wY]),fun s t v u i h1 h2 h3 h4=>jW h2 rfl (az h4),fun s t u i h1 h2 h3 h4=>jW h2 (by rw[E4]) (Ap h4),fun s t u i h1 h2 h3 h4=>jW h2 rfl (az h4),fun s t st u i h1 h2 h3 h4=>jW h2 (az h4) rfl,fun s t st i v h1 h2 h3 h4 h5 h6 h7=>?_,fun s t u i h1 h2 h3 h4 h5 h6=>jW h2 (pU h6) (by rw[wY]),fun s t i v h1 h2 h3 h4 h5 h6=>E5 h4 h2⟩
 ·show sE nb _ t v
  unfold sE
  show (match fs s.S t (fX.ct (v%nb)) t with | .no=>True | .ct b=>b=v%nb | .seen b _=>b=v%nb | .bB b _=>b=v%nb)
  rw[aA]
 ·have e:(s.tv t).S i=s.S i∨(∃ b sd,s.S i = .ct b∧(s.tv t).S i = .seen b sd)∨∃ b sd,s.S i = .seen b sd∧(s.tv t).S i = .bB b sd:=by
   by_cases c:i=t
   ·subst c
    unfold GS.tv
    cases q:s.S i with
    |no=>exact .inl q
    |ct b=>exact .inr (.inl ⟨b,_,rfl,aA⟩)
    |seen b sd=>exact .inr (.inr ⟨b,sd,rfl,aA⟩)
    |bB b sd=>exact .inl q
   ·exact .inl (Ap c)
  rcases e with q | ⟨b,sd,q1,q2⟩ | ⟨b,sd,q1,q2⟩
  ·exact oP h q
  ·unfold sE at *;rw[q1] at h
   show (match (s.tv t).S i with | .no=>True | .ct b=>b=w%nb | .seen b _=>b=w%nb | .bB b _=>b=w%nb)
   rw[q2];exact h
  ·unfold sE at *;rw[q1] at h
   show (match (s.tv t).S i with | .no=>True | .ct b=>b=w%nb | .seen b _=>b=w%nb | .bB b _=>b=w%nb)
   rw[q2];exact h
 ·have h1':(s.S i).isIn=true:=h1
  cases q:s.S i with
  |bB b d=>
   unfold sE at h4;rw[q] at h4
   have hm:b∈dH nb (kV 64 0 st):=by
    unfold dH
    rw[List.mem_filter]
    refine⟨by rw[h4];simpa using Nat.mod_lt _ hnb,?_⟩
    simp only[gB,List.any_eq_true,decide_eq_true_eq]
    exact⟨v,(qP 64 0 st v h6).2 ⟨Nat.zero_le _,by rw[Nat.sub_zero];exact h7⟩,h4.symm⟩
   have hX:((g_ ns nb).wait s t st).X t=some ⟨dH nb (kV 64 0 st),0,false⟩:=aA
   cases hl:dH nb (kV 64 0 st) with
   |nil=>rw[hl] at hm;simp at hm
   |cons b0 r=>
    rw[hl] at hm hX
    refine⟨b0,r,0,false,b,d,hX,q,?_⟩
    rcases List.mem_cons.1 hm with c |c
    ·exact .inr ⟨c,.inl (by omega)⟩
    ·exact .inl c
  | _=>rw[q] at h1';simp[fX.isIn] at h1'
end Go.Proofs.YtbceiadaihphaaaGreat
namespace Go.Proofs.YtbceiadaihphaaaGreat
open Go.Am
structure gT.gC (e:gT) (ns:Nat) (aO:e.σ→Nat→Nat→Prop) (guard:e.σ→Nat→Nat→Prop) (fresh:e.σ→Nat→Nat→Prop):Prop where
 ct:∀ s t st,fresh (e.wait s t st) t st
 enter:∀ s t v u st,fresh s u st→fresh (e.enter s t v) u st
 aP:∀ s t u st,fresh s u st→fresh (e.aP s t) u st
 exit:∀ s t u st,fresh s u st→fresh (e.exit s t) u st
 wait:∀ s t w u st,u≠t→fresh s u st→fresh (e.wait s t w) u st
 aQ:∀ s t u st,u≠t→fresh s u st→fresh (e.aQ s t) u st
 guard:∀ s u st i v,fresh s u st→e.bB s i=true→e.br s i=false→i<ns→aO s i v→v<64→st<2^64→st.testBit v=true→guard s u i
def E7 (s:FS) (u:Nat) (_:Nat):Prop:=s.X u=some ⟨0,false,0,false⟩
def E8 (s:ES) (u st:Nat):Prop:=s.X u=some (⟨0,0,0⟩,st)
def E9 (nb:Nat) (s:GS) (u st:Nat):Prop:=s.X u=some ⟨dH nb (kV 64 0 st),0,false⟩
theorem Y2 (ns:Nat):(jV ns).gC ns (fun _ _ _=>True) zk E7:=by
 refine⟨fun s t st=>aA,fun s t v u st h=>h,fun s t u st h=>h,fun s t u st h=>h,fun s t w u st c h=>(az c).trans h,fun s t u st c h=>?_,fun s u st i v h h1 h2 h3 h4 h5 h6 h7=>?_⟩
 ·cases hx:s.X t with
  |none=>rw[lY hx];exact h
  |some x=>rw[i_ hx];exact(az c).trans h
 ·have e:(jV ns).wait s u st=s:=by
   show ({ s with X:=fs s.X u (some ⟨0,false,0,false⟩) }:FS)=s
   rw[wW h]
  have:=(E2 ns).zi s u st i v h1 h2 h3 h4 h5 h6 h7
  rwa [e] at this
theorem Y3 (ns:Nat):(iy ns).gC ns Mi zm E8:=by
 refine⟨fun s t st=>aA,fun s t v u st h=>h,fun s t u st h=>?_,fun s t u st h=>h,fun s t w u st c h=>(az c).trans h,fun s t u st c h=>?_,fun s u st i v h h1 h2 h3 h4 h5 h6 h7=>?_⟩
 ·have e:(iy ns).aP s t=if s.E t=1 then { s with V:=fs s.V t (s.A t),E:=fs s.E t 2 } else { s with N:=fs s.N t (s.N t+1),E:=fs s.E t 0 }:=rfl
  rw[e];split<;>exact h
 ·cases hx:s.X t with
  |none=>rw[jv hx];exact h
  |some x=>rw[gO hx];exact(az c).trans h
 ·have e:(iy ns).wait s u st=s:=by
   show ({ s with X:=fs s.X u (some (⟨0,0,0⟩,st)) }:ES)=s
   rw[wW h]
  have:=(E3 ns).zi s u st i v h1 h2 h3 h4 h5 h6 h7
  rwa [e] at this
theorem Y4 {ns nb:Nat} (hnb:0<nb):(g_ ns nb).gC ns (sE nb) nW (E9 nb):=by
 refine⟨fun s t st=>aA,fun s t v u st h=>h,fun s t u st h=>?_,fun s t u st h=>h,fun s t w u st c h=>(az c).trans h,fun s t u st c h=>?_,fun s u st i v h h1 h2 h3 h4 h5 h6 h7=>?_⟩
 ·show (s.tv t).X u=_
  rw[E4];exact h
 ·show (s.oO ns t).X u=_
  rw[pU c];exact h
 ·have e:(g_ ns nb).wait s u st=s:=by
   show ({ s with X:=fs s.X u (some ⟨dH nb (kV 64 0 st),0,false⟩) }:GS)=s
   rw[wW h]
  have:=(E6 (ns:=ns) hnb).zi s u st i v h1 h2 h3 h4 h5 h6 h7
  rwa [e] at this
end Go.Proofs.YtbceiadaihphaaaGreat
