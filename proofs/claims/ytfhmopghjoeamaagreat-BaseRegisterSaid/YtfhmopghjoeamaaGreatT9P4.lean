/-
  A part of the proof: contracts of inner functions.
-/
import Derived.Test.YtfhmopghjoeamaaGreatPT
import Derived.Test.YtfhmopghjoeamaaGreatAmY3
set_option linter.unusedVariables false
set_option linter.unusedSimpArgs false
namespace Go.Proofs.YtfhmopghjoeamaaGreat
open Go.Am
variable {O:Over}
theorem within (a b c:Int) (h:PT aj) (n:Nat):cT Tryz.prog O 79 [.int .i64 a,.int .i64 b,.int .i64 c] h n fun v h' n'=>v = .bool (decide (b≤a)&&decide (a≤c))∧h'=h∧n'=n:=by
 refine aB (N:=15) Tryz.func79 rfl rfl ?_
 intro z hP hO hro hN hQ
 repeat' first |simp(maxSteps:=2000000) (disch:=omega) only[go_sem, *,Tryz.results79] | (first |apply fW |apply fS |apply fX |apply fT |apply fU |apply fV |apply fY |apply fZ)<;>intro _ | (first |apply iW |apply iX |apply iY |apply iZ)<;>intro _ |refine aG (by cbv) (by first |rfl |cbv) ?_
end Go.Proofs.YtfhmopghjoeamaaGreat
set_option linter.unusedVariables false
set_option linter.unusedSimpArgs false
namespace Go.Proofs.YtfhmopghjoeamaaGreat
open Go.Am
variable {O:Over}
def ym:Int→List Int→Bool
 | _,[]=>true
 |b,x::xs=>if x≤b then false else ym x xs
theorem Dq {b:Int} {xs:List Int} {i:Nat} (hi:i<xs.length):ym b (xs.drop i)=if xs.getD i 0≤b then false else ym (xs.getD i 0) (xs.drop (i+1)):=by
 rw[List.drop_eq_getElem_cons hi]
 simp[ym,List.getD,hi]
theorem ascending (xs:List Int) (s:Value) (h:PT aj) (n:Nat) (hs:aS .u64 h s xs) (hl:xs.length<1000000000000000):cT Tryz.prog O 134 [s] h n fun v h' n'=>v = .bool (ym 0 xs)∧h'=h∧n'=n:=by
 obtain⟨a,cap,rfl,hA⟩:=hs.len
 clear hs
 refine aB (N:=17) Tryz.func134 rfl rfl ?_
 intro z hP hO hro hN hQ
 repeat' first |simp(maxSteps:=2000000) (disch:=omega) only[go_sem, *,Tryz.results134] | (first |apply fW |apply fS |apply fX |apply fT |apply fU |apply fV |apply fY |apply fZ)<;>intro _ | (first |apply iW |apply iX |apply iY |apply iZ)<;>intro _ |refine aG (by cbv) (by first |rfl |cbv) ?_
 refine cU (fun t m h' n'=>h'=h∧n'=n∧∃ (i:Nat) (b:Int),i≤xs.length∧t=xs.length-i∧ym 0 xs=ym b (xs.drop i)∧m.n=17∧m.fO=[]∧m.get 6 = .slice a xs.length cap∧m.get 7 = .int .i64 xs.length∧m.get 8 = .int .i64 i∧m.get 3 = .int .u64 b) xs.length ?_ ?_
 ·refine⟨rfl,rfl,0,0,by omega,by omega,by simp,?_⟩
  simp(maxSteps:=2000000) (disch:=omega) only[go_sem, *]
 ·rintro t m h n ih ⟨rfl,rfl,i,b,hi,rfl,vA,m1,m2,m3,m4,m5,m6⟩
  rcases Nat.lt_or_ge i xs.length with hlt |hge
  ·obtain⟨bk,off,sp,L,ro,rfl,hb,hL⟩:=hA i hlt
   have e1:(i:Int)<xs.length:=by omega
   rw[Dq hlt] at vA
   clear hA
   repeat' first |simp(maxSteps:=2000000) (disch:=omega) only[go_sem, *,Tryz.results134] | (first |apply fW |apply fS |apply fX |apply fT |apply fU |apply fV |apply fY |apply fZ)<;>intro _ | (first |apply iW |apply iX |apply iY |apply iZ)<;>intro _ |refine aG (by cbv) (by first |rfl |cbv) ?_
   refine ih (xs.length-(i+1)) _ _ _ (by omega) ⟨rfl,rfl,i+1,xs.getD i 0,by omega,by omega,?_⟩
   simp(maxSteps:=2000000) (disch:=omega) only[go_sem, *]
   simp
  ·have e1: ¬ (i:Int)<xs.length:=by omega
   rw[List.drop_eq_nil_of_le hge] at vA
   repeat' first |simp(maxSteps:=2000000) (disch:=omega) only[go_sem, *,Tryz.results134,ym] | (first |apply fW |apply fS |apply fX |apply fT |apply fU |apply fV |apply fY |apply fZ)<;>intro _ | (first |apply iW |apply iX |apply iY |apply iZ)<;>intro _ |refine aG (by cbv) (by first |rfl |cbv) ?_
end Go.Proofs.YtfhmopghjoeamaaGreat
set_option linter.unusedVariables false
set_option linter.unusedSimpArgs false
namespace Go.Proofs.YtfhmopghjoeamaaGreat
open Go.Am
theorem cO:Tryz.prog.follows .mixedOrders=true:=by kernel_rfl
def cY:List Value→Option (AP Value)
 | [.int .i64 a,.int .i64 b,.int .i64 c]=>some (.pure (.bool (decide (b≤a)&&decide (a≤c))))
 | _=>none
theorem o_:bR Tryz.prog 79 cY:=by
 refine b8 (bt .nil) cO ?_
 intro args m hm
 unfold cY at hm
 split at hm
 ·rename_i a b c
  simp only[Option.some.injEq] at hm
  subst hm
  refine⟨fun h v=>v = .bool (decide (b≤a)&&decide (a≤c)),fun h n v s' _ e=>?_,fun h N v _ hv=>?_⟩
  ·obtain⟨h1,rfl⟩:=run_pure e
   exact⟨h1,.bool _,rfl⟩
  ·subst hv
   exact(within a b c h N).mono fun v h' n' ⟨e1,e2,e3⟩=>⟨e1,fun i _=>by rw[e2]⟩
 ·simp at hm
def Av:List Value→Option (AP Value)
 | [s]=>some ((dJ .u64 s).bind fun xs=>cond (decide (xs.length<1000000000000000)) (.pure (.bool (ym 0 xs))) (.fail ""))
 | _=>none
theorem VT:bR Tryz.prog 134 Av:=by
 refine b8 (bt .nil) cO ?_
 intro args m hm
 unfold Av at hm
 split at hm
 ·rename_i s
  simp only[Option.some.injEq] at hm
  subst hm
  refine⟨fun h v=>∃ xs,aS .u64 h s xs∧xs.length<1000000000000000∧v = .bool (ym 0 xs),fun h n v s' hR e=>?_,fun h N v _ hv=>?_⟩
  ·obtain⟨xs,hx,e⟩:=j5 hR e
   obtain⟨hl,e⟩:=fK e
   obtain⟨h1,rfl⟩:=run_pure e
   exact⟨h1,.bool _,xs,hx,of_decide_eq_true hl,rfl⟩
  ·obtain⟨xs,hx,hl,rfl⟩:=hv
   exact(ascending xs s h N hx hl).mono fun v h' n' ⟨e1,e2,e3⟩=>⟨e1,fun i _=>by rw[e2]⟩
 ·simp at hm
def iq (kind n:Int) (xs:List Int):Bool:=
 if kind=1 then decide (n=0)&&decide ((xs.length:Int)=0)
 else if kind=2 then decide (1≤n)&&decide (n≤64)&&decide ((xs.length:Int)=0)
 else if kind=3 then decide (n=0)&&decide (1≤(xs.length:Int))&&decide ((xs.length:Int)<64)&&ym 0 xs
 else false
def iu (b:Bool):Int:=if b then 0 else 2
abbrev O1:Over:=jD [(134,Av)]
theorem VU:cr Tryz.prog O1:=bt (.cons VT .nil)
theorem Dr (kind n:Int) (s:Value) (xs:List Int) (h:PT aj) (N:Nat) (hN:∀ i B,h.get i=some B→i<N) (hs:aS .u64 h s xs) (hl:xs.length<1000000000000000):cT Tryz.prog O1 104 [.agg ⟨[.int .u8 kind,.int .i64 n,s]⟩] h N fun v h' n'=>v = .int .i64 (iu (iq kind n xs))∧∀ i,i<N→h'.get i=h.get i:=by
 rcases hs.C_ with ⟨rfl,rfl⟩ | ⟨b,off,sp,cap,L,ro,rfl,rfl,hb⟩ | ⟨b,off,sp,cap,L,ro,rfl,hb,hB,hT⟩
 ·refine aB (N:=57) Tryz.func104 rfl rfl ?_
  intro z hP hO hro hN hQ
  repeat' first |simp(maxSteps:=2000000) (disch:=omega) only[go_sem, *,Tryz.results104,Av] | (first |apply fW |apply fS |apply fX |apply fT |apply fU |apply fV |apply fY |apply fZ)<;>intro _ | (first |apply iW |apply iX |apply iY |apply iZ)<;>intro _ |refine aG (by cbv) (by first |rfl |cbv) ?_
  all_goals refine⟨?_,fun i hi=>by simp(disch:=omega) only[bf]⟩
  all_goals simp(maxSteps:=2000000) (disch:=omega) only[go_sem, *,iu,iq,ym,Bool.false_eq_true,Int.natCast_zero,List.length_nil]
 ·have Es:=hN _ _ hb
  refine aB (N:=57) Tryz.func104 rfl rfl ?_
  intro z hP hO hro hN hQ
  repeat' first |simp(maxSteps:=2000000) (disch:=omega) only[go_sem, *,Tryz.results104,Av] | (first |apply fW |apply fS |apply fX |apply fT |apply fU |apply fV |apply fY |apply fZ)<;>intro _ | (first |apply iW |apply iX |apply iY |apply iZ)<;>intro _ |refine aG (by cbv) (by first |rfl |cbv) ?_
  all_goals refine⟨?_,fun i hi=>by simp(disch:=omega) only[bf]⟩
  all_goals simp(maxSteps:=2000000) (disch:=omega) only[go_sem, *,iu,iq,ym,Bool.false_eq_true,Int.natCast_zero,List.length_nil]
 ·have Es:=hN _ _ hb
  refine aB (N:=57) Tryz.func104 rfl rfl ?_
  intro z hP hO hro hN hQ
  repeat' first |simp(maxSteps:=2000000) (disch:=omega) only[go_sem, *,Tryz.results104,Av] | (first |apply fW |apply fS |apply fX |apply fT |apply fU |apply fV |apply fY |apply fZ)<;>intro _ | (first |apply iW |apply iX |apply iY |apply iZ)<;>intro _ |refine aG (by cbv) (by first |rfl |cbv) ?_
  all_goals refine⟨?_,fun i hi=>by simp(disch:=omega) only[bf]⟩
  all_goals simp(maxSteps:=2000000) (disch:=omega) only[go_sem, *,iu,iq,ym,Bool.false_eq_true,Int.natCast_zero,List.length_nil]
end Go.Proofs.YtfhmopghjoeamaaGreat
set_option linter.unusedVariables false
set_option linter.unusedSimpArgs false
namespace Go.Proofs.YtfhmopghjoeamaaGreat
open Go.Am
def gx:List Value→Option (AP Value)
 | [.agg ⟨[.int .u8 kind,.int .i64 n,s]⟩]=>some ((dJ .u64 s).bind fun xs=>cond (decide (xs.length<1000000000000000)) (.pure (.int .i64 (iu (iq kind n xs)))) (.fail ""))
 | _=>none
theorem sC:bR Tryz.prog 104 gx:=by
 refine b8 VU cO ?_
 intro args m hm
 unfold gx at hm
 split at hm
 ·rename_i kind n s
  simp only[Option.some.injEq] at hm
  subst hm
  refine⟨fun h v=>∃ xs,aS .u64 h s xs∧xs.length<1000000000000000∧v = .int .i64 (iu (iq kind n xs)),fun h n v s' hR e=>?_,fun h N v hlt hv=>?_⟩
  ·obtain⟨xs,hx,e⟩:=j5 hR e
   obtain⟨hl,e⟩:=fK e
   obtain⟨h1,rfl⟩:=run_pure e
   exact⟨h1,.int _ _,xs,hx,of_decide_eq_true hl,rfl⟩
  ·obtain⟨xs,hx,hl,rfl⟩:=hv
   exact Dr kind n s xs h N hlt hx hl
 ·simp at hm
def iw (th sl en bu kd dn t0 t1 t2 t3 t4 t5 lo tr ba:Int) (xs:List Int):Bool:=
 !(decide (t0<0)||decide (1024<t0)) && !(decide (t1<0)||decide (1024-t0<t1)) && !(decide (t2<0)||decide (1024-t0-t1<t2)) && !(decide (t3<0)||decide (1024-t0-t1-t2<t3))&&
 !(decide (t4<0)||decide (1024-t0-t1-t2-t3<t4)) && !(decide (t5<0)||decide (1024-t0-t1-t2-t3-t4<t5))&&
 (decide (1≤th)&&decide (th≤64))&&(decide (1≤sl)&&decide (sl≤64)) && !decide (en<1) && !decide (3<en)&&(if en=3 then decide (1≤bu)&&decide (bu≤16) else decide (bu=0))&&
 iq kd dn xs&&(decide (1≤lo)&&decide (lo≤16))&&(decide (1≤tr)&&decide (tr≤255))&&(decide (0≤ba)&&decide (ba≤64))
abbrev O2:Over:=jD [(79,cY),(104,gx)]
theorem VW:cr Tryz.prog O2:=bt (.cons o_ (.cons sC .nil))
theorem qF (b:Bool):(iu b≠0)=(b=false):=by cases b<;>simp[iu]
set_option maxHeartbeats 4000000 in
set_option maxRecDepth 100000 in
theorem Ds (th sl en bu kd dn t0 t1 t2 t3 t4 t5 lo tr ba:Int) (s:Value) (xs:List Int) (h:PT aj) (N:Nat) (hN:∀ i B,h.get i=some B→i<N) (hs:aS .u64 h s xs) (hl:xs.length<1000000000000000):
  cT Tryz.prog O2 65 [.agg ⟨[.int .i64 th,.int .i64 sl,.int .u8 en,.int .i64 bu,.int .u8 kd,.int .i64 dn,s,.int .i64 t0,.int .i64 t1,.int .i64 t2,.int .i64 t3,.int .i64 t4,.int .i64 t5,.int .i64 lo,.int .i64 tr,.int .i64 ba]⟩] h N
   fun v h' n'=>v = .int .i64 (iu (iw th sl en bu kd dn t0 t1 t2 t3 t4 t5 lo tr ba xs))∧∀ i,i<N→h'.get i=h.get i:=by
 obtain⟨a,cap,rfl,-⟩:=hs.len
 have hrd:=fun h' hk z f d ops r K m n=>@qx _ _ h' _ _ hs z f d ops r K m n hk
 refine aB (N:=80) Tryz.func65 rfl rfl ?_
 intro z hP hO hro hN hQ
 repeat' first |simp(maxSteps:=2000000) (disch:=first |omega | (repeat first |assumption |exact Kept.refl _ |refine Kept.set' (by assumption) ?_ ?_ |refine Kept.set (by assumption) ?_ ?_ |omega)) only[go_sem, *,Tryz.results65,cY,gx,ct,qF] | (first |apply fW |apply fS |apply fX |apply fT |apply fU |apply fV |apply fY |apply fZ)<;>intro _ | (first |apply iW |apply iX |apply iY |apply iZ)<;>intro _ |refine aG (by cbv) (by first |rfl |cbv) ?_
 all_goals refine⟨?_,fun i hi=>by simp(disch:=omega) only[bf]⟩
 all_goals (try simp only[Bool.not_eq_false] at *)
 all_goals simp(maxSteps:=2000000) (disch:=first |omega | (repeat first |assumption |exact Kept.refl _ |refine Kept.set' (by assumption) ?_ ?_ |refine Kept.set (by assumption) ?_ ?_ |omega)) only[go_sem, *,iu,iw,Bool.false_eq_true]
end Go.Proofs.YtfhmopghjoeamaaGreat
