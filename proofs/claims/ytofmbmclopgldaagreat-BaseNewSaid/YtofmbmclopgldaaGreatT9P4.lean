/-
  A part of the proof: contracts of inner functions.
-/
import Derived.Test.YtofmbmclopgldaaGreatPT
import Derived.Test.YtofmbmclopgldaaGreatAmY3
set_option linter.unusedVariables false
set_option linter.unusedSimpArgs false
namespace Go.Proofs.YtofmbmclopgldaaGreat
open Go.Am
variable {O:Over}
theorem within (a b c:Int) (h:PT ak) (n:Nat):cW Tryz.prog O 106 [.int .i64 a,.int .i64 b,.int .i64 c] h n fun v h' n'=>v = .bool (decide (b≤a)&&decide (a≤c))∧h'=h∧n'=n:=by
 refine ay (N:=15) Tryz.func106 rfl rfl ?_
 intro z hP hO hro hN hQ
 repeat' first |simp(maxSteps:=2000000) (disch:=omega) only[go_sem, *,Tryz.results106] | (first |apply fZ |apply fV |apply f_ |apply fW |apply fX |apply fY |apply ga |apply gd)<;>intro _ | (first |apply iz |apply iA |apply iB |apply iC)<;>intro _ |refine aK (by cbv) (by first |rfl |cbv) ?_
end Go.Proofs.YtofmbmclopgldaaGreat
set_option linter.unusedVariables false
set_option linter.unusedSimpArgs false
namespace Go.Proofs.YtofmbmclopgldaaGreat
open Go.Am
variable {O:Over}
def ux:Int→List Int→Bool
 | _,[]=>true
 |b,x::xs=>if x≤b then false else ux x xs
theorem tG {b:Int} {xs:List Int} {i:Nat} (hi:i<xs.length):ux b (xs.drop i)=if xs.getD i 0≤b then false else ux (xs.getD i 0) (xs.drop (i+1)):=by
 rw[List.drop_eq_getElem_cons hi]
 simp[ux,List.getD,hi]
theorem ascending (xs:List Int) (s:Value) (h:PT ak) (n:Nat) (hs:aW .u64 h s xs) (hl:xs.length<1000000000000000):cW Tryz.prog O 225 [s] h n fun v h' n'=>v = .bool (ux 0 xs)∧h'=h∧n'=n:=by
 obtain⟨a,cap,rfl,hA⟩:=hs.len
 clear hs
 refine ay (N:=17) Tryz.func225 rfl rfl ?_
 intro z hP hO hro hN hQ
 repeat' first |simp(maxSteps:=2000000) (disch:=omega) only[go_sem, *,Tryz.results225] | (first |apply fZ |apply fV |apply f_ |apply fW |apply fX |apply fY |apply ga |apply gd)<;>intro _ | (first |apply iz |apply iA |apply iB |apply iC)<;>intro _ |refine aK (by cbv) (by first |rfl |cbv) ?_
 refine bY (fun t m h' n'=>h'=h∧n'=n∧∃ (i:Nat) (b:Int),i≤xs.length∧t=xs.length-i∧ux 0 xs=ux b (xs.drop i)∧m.n=17∧m.eS=[]∧m.get 6 = .slice a xs.length cap∧m.get 7 = .int .i64 xs.length∧m.get 8 = .int .i64 i∧m.get 3 = .int .u64 b) xs.length ?_ ?_
 ·refine⟨rfl,rfl,0,0,by omega,by omega,by simp,?_⟩
  simp(maxSteps:=2000000) (disch:=omega) only[go_sem, *]
 ·rintro t m h n ih ⟨rfl,rfl,i,b,hi,rfl,pV,m1,m2,m3,m4,m5,m6⟩
  rcases Nat.lt_or_ge i xs.length with hlt |hge
  ·obtain⟨bk,off,sp,L,ro,rfl,hb,hL⟩:=hA i hlt
   have e1:(i:Int)<xs.length:=by omega
   rw[tG hlt] at pV
   clear hA
   repeat' first |simp(maxSteps:=2000000) (disch:=omega) only[go_sem, *,Tryz.results225] | (first |apply fZ |apply fV |apply f_ |apply fW |apply fX |apply fY |apply ga |apply gd)<;>intro _ | (first |apply iz |apply iA |apply iB |apply iC)<;>intro _ |refine aK (by cbv) (by first |rfl |cbv) ?_
   refine ih (xs.length-(i+1)) _ _ _ (by omega) ⟨rfl,rfl,i+1,xs.getD i 0,by omega,by omega,?_⟩
   simp(maxSteps:=2000000) (disch:=omega) only[go_sem, *]
   simp
  ·have e1: ¬ (i:Int)<xs.length:=by omega
   rw[List.drop_eq_nil_of_le hge] at pV
   repeat' first |simp(maxSteps:=2000000) (disch:=omega) only[go_sem, *,Tryz.results225,ux] | (first |apply fZ |apply fV |apply f_ |apply fW |apply fX |apply fY |apply ga |apply gd)<;>intro _ | (first |apply iz |apply iA |apply iB |apply iC)<;>intro _ |refine aK (by cbv) (by first |rfl |cbv) ?_
end Go.Proofs.YtofmbmclopgldaaGreat
set_option linter.unusedVariables false
set_option linter.unusedSimpArgs false
namespace Go.Proofs.YtofmbmclopgldaaGreat
open Go.Am
theorem bA:Tryz.prog.follows .mixedOrders=true:=by kernel_rfl
def dW:List Value→Option (AP Value)
 | [.int .i64 a,.int .i64 b,.int .i64 c]=>some (.pure (.bool (decide (b≤a)&&decide (a≤c))))
 | _=>none
theorem rE:bf Tryz.prog 106 dW:=by
 refine bK (aN .nil) bA ?_
 intro args m hm
 unfold dW at hm
 split at hm
 ·rename_i a b c
  simp only[Option.some.injEq] at hm
  subst hm
  refine⟨fun h v=>v = .bool (decide (b≤a)&&decide (a≤c)),fun h n v s' _ e=>?_,fun h N v _ hv=>?_⟩
  ·obtain⟨h1,rfl⟩:=run_pure e
   exact⟨h1,.bool _,rfl⟩
  ·subst hv
   exact(within a b c h N).mono fun v h' n' ⟨e1,e2,e3⟩=>⟨e1,fun i _=>by rw[e2]⟩
 ·simp at hm
def DW:List Value→Option (AP Value)
 | [s]=>some ((dh .u64 s).bind fun xs=>cond (decide (xs.length<1000000000000000)) (.pure (.bool (ux 0 xs))) (.fail ""))
 | _=>none
theorem ab5:bf Tryz.prog 225 DW:=by
 refine bK (aN .nil) bA ?_
 intro args m hm
 unfold DW at hm
 split at hm
 ·rename_i s
  simp only[Option.some.injEq] at hm
  subst hm
  refine⟨fun h v=>∃ xs,aW .u64 h s xs∧xs.length<1000000000000000∧v = .bool (ux 0 xs),fun h n v s' hR e=>?_,fun h N v _ hv=>?_⟩
  ·obtain⟨xs,hx,e⟩:=gx hR e
   obtain⟨hl,e⟩:=cU e
   obtain⟨h1,rfl⟩:=run_pure e
   exact⟨h1,.bool _,xs,hx,of_decide_eq_true hl,rfl⟩
  ·obtain⟨xs,hx,hl,rfl⟩:=hv
   exact(ascending xs s h N hx hl).mono fun v h' n' ⟨e1,e2,e3⟩=>⟨e1,fun i _=>by rw[e2]⟩
 ·simp at hm
def cI (kind n:Int) (xs:List Int):Bool:=
 if kind=1 then decide (n=0)&&decide ((xs.length:Int)=0)
 else if kind=2 then decide (1≤n)&&decide (n≤64)&&decide ((xs.length:Int)=0)
 else if kind=3 then decide (n=0)&&decide (1≤(xs.length:Int))&&decide ((xs.length:Int)<64)&&ux 0 xs
 else false
def cN (b:Bool):Int:=if b then 0 else 2
abbrev O1:Over:=eN [(225,DW)]
theorem ab6:cr Tryz.prog O1:=aN (.cons ab5 .nil)
theorem Hq (kind n:Int) (s:Value) (xs:List Int) (h:PT ak) (N:Nat) (hN:∀ i B,h.get i=some B→i<N) (hs:aW .u64 h s xs) (hl:xs.length<1000000000000000):cW Tryz.prog O1 161 [.agg ⟨[.int .u8 kind,.int .i64 n,s]⟩] h N fun v h' n'=>v = .int .i64 (cN (cI kind n xs))∧∀ i,i<N→h'.get i=h.get i:=by
 rcases hs.AX with ⟨rfl,rfl⟩ | ⟨b,off,sp,cap,L,ro,rfl,rfl,hb⟩ | ⟨b,off,sp,cap,L,ro,rfl,hb,hB,hT⟩
 ·refine ay (N:=57) Tryz.func161 rfl rfl ?_
  intro z hP hO hro hN hQ
  repeat' first |simp(maxSteps:=2000000) (disch:=omega) only[go_sem, *,Tryz.results161,DW] | (first |apply fZ |apply fV |apply f_ |apply fW |apply fX |apply fY |apply ga |apply gd)<;>intro _ | (first |apply iz |apply iA |apply iB |apply iC)<;>intro _ |refine aK (by cbv) (by first |rfl |cbv) ?_
  all_goals refine⟨?_,fun i hi=>by simp(disch:=omega) only[aE]⟩
  all_goals simp(maxSteps:=2000000) (disch:=omega) only[go_sem, *,cN,cI,ux,Bool.false_eq_true,Int.natCast_zero,List.length_nil]
 ·have wQ:=hN _ _ hb
  refine ay (N:=57) Tryz.func161 rfl rfl ?_
  intro z hP hO hro hN hQ
  repeat' first |simp(maxSteps:=2000000) (disch:=omega) only[go_sem, *,Tryz.results161,DW] | (first |apply fZ |apply fV |apply f_ |apply fW |apply fX |apply fY |apply ga |apply gd)<;>intro _ | (first |apply iz |apply iA |apply iB |apply iC)<;>intro _ |refine aK (by cbv) (by first |rfl |cbv) ?_
  all_goals refine⟨?_,fun i hi=>by simp(disch:=omega) only[aE]⟩
  all_goals simp(maxSteps:=2000000) (disch:=omega) only[go_sem, *,cN,cI,ux,Bool.false_eq_true,Int.natCast_zero,List.length_nil]
 ·have wQ:=hN _ _ hb
  refine ay (N:=57) Tryz.func161 rfl rfl ?_
  intro z hP hO hro hN hQ
  repeat' first |simp(maxSteps:=2000000) (disch:=omega) only[go_sem, *,Tryz.results161,DW] | (first |apply fZ |apply fV |apply f_ |apply fW |apply fX |apply fY |apply ga |apply gd)<;>intro _ | (first |apply iz |apply iA |apply iB |apply iC)<;>intro _ |refine aK (by cbv) (by first |rfl |cbv) ?_
  all_goals refine⟨?_,fun i hi=>by simp(disch:=omega) only[aE]⟩
  all_goals simp(maxSteps:=2000000) (disch:=omega) only[go_sem, *,cN,cI,ux,Bool.false_eq_true,Int.natCast_zero,List.length_nil]
end Go.Proofs.YtofmbmclopgldaaGreat
set_option linter.unusedVariables false
set_option linter.unusedSimpArgs false
namespace Go.Proofs.YtofmbmclopgldaaGreat
open Go.Am
def iU:List Value→Option (AP Value)
 | [.agg ⟨[.int .u8 kind,.int .i64 n,s]⟩]=>some ((dh .u64 s).bind fun xs=>cond (decide (xs.length<1000000000000000)) (.pure (.int .i64 (cN (cI kind n xs)))) (.fail ""))
 | _=>none
theorem ve:bf Tryz.prog 161 iU:=by
 refine bK ab6 bA ?_
 intro args m hm
 unfold iU at hm
 split at hm
 ·rename_i kind n s
  simp only[Option.some.injEq] at hm
  subst hm
  refine⟨fun h v=>∃ xs,aW .u64 h s xs∧xs.length<1000000000000000∧v = .int .i64 (cN (cI kind n xs)),fun h n v s' hR e=>?_,fun h N v hlt hv=>?_⟩
  ·obtain⟨xs,hx,e⟩:=gx hR e
   obtain⟨hl,e⟩:=cU e
   obtain⟨h1,rfl⟩:=run_pure e
   exact⟨h1,.int _ _,xs,hx,of_decide_eq_true hl,rfl⟩
  ·obtain⟨xs,hx,hl,rfl⟩:=hv
   exact Hq kind n s xs h N hlt hx hl
 ·simp at hm
def gB (th sl en bu kd dn t0 t1 t2 t3 t4 t5 lo tr ba:Int) (xs:List Int):Bool:=
 !(decide (t0<0)||decide (1024<t0)) && !(decide (t1<0)||decide (1024-t0<t1)) && !(decide (t2<0)||decide (1024-t0-t1<t2)) && !(decide (t3<0)||decide (1024-t0-t1-t2<t3))&&
 !(decide (t4<0)||decide (1024-t0-t1-t2-t3<t4)) && !(decide (t5<0)||decide (1024-t0-t1-t2-t3-t4<t5))&&
 (decide (1≤th)&&decide (th≤64))&&(decide (1≤sl)&&decide (sl≤64)) && !decide (en<1) && !decide (3<en)&&(if en=3 then decide (1≤bu)&&decide (bu≤16) else decide (bu=0))&&
 cI kd dn xs&&(decide (1≤lo)&&decide (lo≤16))&&(decide (1≤tr)&&decide (tr≤255))&&(decide (0≤ba)&&decide (ba≤64))
abbrev O2:Over:=eN [(106,dW),(161,iU)]
theorem ab7:cr Tryz.prog O2:=aN (.cons rE (.cons ve .nil))
theorem l8 (b:Bool):(cN b≠0)=(b=false):=by cases b<;>simp[cN]
set_option maxHeartbeats 4000000 in
set_option maxRecDepth 100000 in
theorem Hr (th sl en bu kd dn t0 t1 t2 t3 t4 t5 lo tr ba:Int) (s:Value) (xs:List Int) (h:PT ak) (N:Nat) (hN:∀ i B,h.get i=some B→i<N) (hs:aW .u64 h s xs) (hl:xs.length<1000000000000000):
  cW Tryz.prog O2 108 [.agg ⟨[.int .i64 th,.int .i64 sl,.int .u8 en,.int .i64 bu,.int .u8 kd,.int .i64 dn,s,.int .i64 t0,.int .i64 t1,.int .i64 t2,.int .i64 t3,.int .i64 t4,.int .i64 t5,.int .i64 lo,.int .i64 tr,.int .i64 ba]⟩] h N
   fun v h' n'=>v = .int .i64 (cN (gB th sl en bu kd dn t0 t1 t2 t3 t4 t5 lo tr ba xs))∧∀ i,i<N→h'.get i=h.get i:=by
 obtain⟨a,cap,rfl,-⟩:=hs.len
 have hrd:=fun h' hk z f d ops r K m n=>@ij _ _ h' _ _ hs z f d ops r K m n hk
 refine ay (N:=80) Tryz.func108 rfl rfl ?_
 intro z hP hO hro hN hQ
 repeat' first |simp(maxSteps:=2000000) (disch:=first |omega | (repeat first |assumption |exact Kept.refl _ |refine Kept.set' (by assumption) ?_ ?_ |refine Kept.set (by assumption) ?_ ?_ |omega)) only[go_sem, *,Tryz.results108,dW,iU,bX,l8] | (first |apply fZ |apply fV |apply f_ |apply fW |apply fX |apply fY |apply ga |apply gd)<;>intro _ | (first |apply iz |apply iA |apply iB |apply iC)<;>intro _ |refine aK (by cbv) (by first |rfl |cbv) ?_
 all_goals refine⟨?_,fun i hi=>by simp(disch:=omega) only[aE]⟩
 all_goals (try simp only[Bool.not_eq_false] at *)
 all_goals simp(maxSteps:=2000000) (disch:=first |omega | (repeat first |assumption |exact Kept.refl _ |refine Kept.set' (by assumption) ?_ ?_ |refine Kept.set (by assumption) ?_ ?_ |omega)) only[go_sem, *,cN,gB,Bool.false_eq_true]
end Go.Proofs.YtofmbmclopgldaaGreat
