/-
  A part of the proof: contracts of inner functions.
-/
import Derived.Test.YtfhmopghjoeamaaGreatPT
import Derived.Test.YtfhmopghjoeamaaGreatAmY3
set_option linter.unusedVariables false
set_option linter.unusedSimpArgs false
namespace Go.Proofs.YtfhmopghjoeamaaGreat
open Go.Am
variable {O:Over}
theorem within (a b c:Int) (h:PT ak) (n:Nat):gN Tryz.prog O 79 [.int .i64 a,.int .i64 b,.int .i64 c] h n fun v h' n'=>v = .bool (decide (b≤a)&&decide (a≤c))∧h'=h∧n'=n:=by
 refine aD (N:=15) Tryz.func79 rfl rfl ?_
 intro z hP hO hro hN hQ
 repeat' first |simp(maxSteps:=2000000) (disch:=omega) only[go_sem, *,Tryz.results79] | (first |apply fA |apply fc |apply fB |apply fk |apply fm |apply fq |apply fC |apply fD)<;>intro _ | (first |apply ig |apply ij |apply iq |apply iu)<;>intro _ |refine aG (by cbv) (by first |rfl |cbv) ?_
end Go.Proofs.YtfhmopghjoeamaaGreat
set_option linter.unusedVariables false
set_option linter.unusedSimpArgs false
namespace Go.Proofs.YtfhmopghjoeamaaGreat
open Go.Am
variable {O:Over}
def vw:Int→List Int→Bool
 | _,[]=>true
 |b,x::xs=>if x≤b then false else vw x xs
theorem AE {b:Int} {xs:List Int} {i:Nat} (hi:i<xs.length):vw b (xs.drop i)=if xs.getD i 0≤b then false else vw (xs.getD i 0) (xs.drop (i+1)):=by
 rw[List.drop_eq_getElem_cons hi]
 simp[vw,List.getD,hi]
theorem ascending (xs:List Int) (s:Value) (h:PT ak) (n:Nat) (hs:aZ .u64 h s xs) (hl:xs.length<1000000000000000):gN Tryz.prog O 134 [s] h n fun v h' n'=>v = .bool (vw 0 xs)∧h'=h∧n'=n:=by
 obtain⟨a,cap,rfl,hA⟩:=hs.len
 clear hs
 refine aD (N:=17) Tryz.func134 rfl rfl ?_
 intro z hP hO hro hN hQ
 repeat' first |simp(maxSteps:=2000000) (disch:=omega) only[go_sem, *,Tryz.results134] | (first |apply fA |apply fc |apply fB |apply fk |apply fm |apply fq |apply fC |apply fD)<;>intro _ | (first |apply ig |apply ij |apply iq |apply iu)<;>intro _ |refine aG (by cbv) (by first |rfl |cbv) ?_
 refine cU (fun t m h' n'=>h'=h∧n'=n∧∃ (i:Nat) (b:Int),i≤xs.length∧t=xs.length-i∧vw 0 xs=vw b (xs.drop i)∧m.n=17∧m.gn=[]∧m.get 6 = .slice a xs.length cap∧m.get 7 = .int .i64 xs.length∧m.get 8 = .int .i64 i∧m.get 3 = .int .u64 b) xs.length ?_ ?_
 ·refine⟨rfl,rfl,0,0,by omega,by omega,by simp,?_⟩
  simp(maxSteps:=2000000) (disch:=omega) only[go_sem, *]
 ·rintro t m h n ih ⟨rfl,rfl,i,b,hi,rfl,tA,m1,m2,m3,m4,m5,m6⟩
  rcases Nat.lt_or_ge i xs.length with hlt |hge
  ·obtain⟨bk,off,sp,L,ro,rfl,hb,hL⟩:=hA i hlt
   have e1:(i:Int)<xs.length:=by omega
   rw[AE hlt] at tA
   clear hA
   repeat' first |simp(maxSteps:=2000000) (disch:=omega) only[go_sem, *,Tryz.results134] | (first |apply fA |apply fc |apply fB |apply fk |apply fm |apply fq |apply fC |apply fD)<;>intro _ | (first |apply ig |apply ij |apply iq |apply iu)<;>intro _ |refine aG (by cbv) (by first |rfl |cbv) ?_
   refine ih (xs.length-(i+1)) _ _ _ (by omega) ⟨rfl,rfl,i+1,xs.getD i 0,by omega,by omega,?_⟩
   simp(maxSteps:=2000000) (disch:=omega) only[go_sem, *]
   simp
  ·have e1: ¬ (i:Int)<xs.length:=by omega
   rw[List.drop_eq_nil_of_le hge] at tA
   repeat' first |simp(maxSteps:=2000000) (disch:=omega) only[go_sem, *,Tryz.results134,vw] | (first |apply fA |apply fc |apply fB |apply fk |apply fm |apply fq |apply fC |apply fD)<;>intro _ | (first |apply ig |apply ij |apply iq |apply iu)<;>intro _ |refine aG (by cbv) (by first |rfl |cbv) ?_
end Go.Proofs.YtfhmopghjoeamaaGreat
set_option linter.unusedVariables false
set_option linter.unusedSimpArgs false
namespace Go.Proofs.YtfhmopghjoeamaaGreat
open Go.Am
theorem ct:Tryz.prog.follows .mixedOrders=true:=by kernel_rfl
def cG:List Value→Option (AP Value)
 | [.int .i64 a,.int .i64 b,.int .i64 c]=>some (.pure (.bool (decide (b≤a)&&decide (a≤c))))
 | _=>none
theorem nr:bL Tryz.prog 79 cG:=by
 refine bQ (bn .nil) ct ?_
 intro args m hm
 unfold cG at hm
 split at hm
 ·rename_i a b c
  simp only[Option.some.injEq] at hm
  subst hm
  refine⟨fun h v=>v = .bool (decide (b≤a)&&decide (a≤c)),fun h n v s' _ e=>?_,fun h N v _ hv=>?_⟩
  ·obtain⟨h1,rfl⟩:=run_pure e
   exact⟨h1,.bool _,rfl⟩
  ·subst hv
   exact(within a b c h N).mono fun v h' n' ⟨e1,e2,e3⟩=>⟨e1,fun i _=>by rw[e2]⟩
 ·simp at hm
def xT:List Value→Option (AP Value)
 | [s]=>some ((cV .u64 s).bind fun xs=>cond (decide (xs.length<1000000000000000)) (.pure (.bool (vw 0 xs))) (.fail ""))
 | _=>none
theorem Qk:bL Tryz.prog 134 xT:=by
 refine bQ (bn .nil) ct ?_
 intro args m hm
 unfold xT at hm
 split at hm
 ·rename_i s
  simp only[Option.some.injEq] at hm
  subst hm
  refine⟨fun h v=>∃ xs,aZ .u64 h s xs∧xs.length<1000000000000000∧v = .bool (vw 0 xs),fun h n v s' hR e=>?_,fun h N v _ hv=>?_⟩
  ·obtain⟨xs,hx,e⟩:=jz hR e
   obtain⟨hl,e⟩:=eU e
   obtain⟨h1,rfl⟩:=run_pure e
   exact⟨h1,.bool _,xs,hx,of_decide_eq_true hl,rfl⟩
  ·obtain⟨xs,hx,hl,rfl⟩:=hv
   exact(ascending xs s h N hx hl).mono fun v h' n' ⟨e1,e2,e3⟩=>⟨e1,fun i _=>by rw[e2]⟩
 ·simp at hm
def gG (kind n:Int) (xs:List Int):Bool:=
 if kind=1 then decide (n=0)&&decide ((xs.length:Int)=0)
 else if kind=2 then decide (1≤n)&&decide (n≤64)&&decide ((xs.length:Int)=0)
 else if kind=3 then decide (n=0)&&decide (1≤(xs.length:Int))&&decide ((xs.length:Int)<64)&&vw 0 xs
 else false
def gH (b:Bool):Int:=if b then 0 else 2
abbrev O1:Over:=iV [(134,xT)]
theorem Ql:bW Tryz.prog O1:=bn (.cons Qk .nil)
theorem AF (kind n:Int) (s:Value) (xs:List Int) (h:PT ak) (N:Nat) (hN:∀ i B,h.get i=some B→i<N) (hs:aZ .u64 h s xs) (hl:xs.length<1000000000000000):gN Tryz.prog O1 104 [.agg ⟨[.int .u8 kind,.int .i64 n,s]⟩] h N fun v h' n'=>v = .int .i64 (gH (gG kind n xs))∧∀ i,i<N→h'.get i=h.get i:=by
 rcases hs.Al with ⟨rfl,rfl⟩ | ⟨b,off,sp,cap,L,ro,rfl,rfl,hb⟩ | ⟨b,off,sp,cap,L,ro,rfl,hb,hB,hT⟩
 ·refine aD (N:=57) Tryz.func104 rfl rfl ?_
  intro z hP hO hro hN hQ
  repeat' first |simp(maxSteps:=2000000) (disch:=omega) only[go_sem, *,Tryz.results104,xT] | (first |apply fA |apply fc |apply fB |apply fk |apply fm |apply fq |apply fC |apply fD)<;>intro _ | (first |apply ig |apply ij |apply iq |apply iu)<;>intro _ |refine aG (by cbv) (by first |rfl |cbv) ?_
  all_goals refine⟨?_,fun i hi=>by simp(disch:=omega) only[aY]⟩
  all_goals simp(maxSteps:=2000000) (disch:=omega) only[go_sem, *,gH,gG,vw,Bool.false_eq_true,Int.natCast_zero,List.length_nil]
 ·have Bt:=hN _ _ hb
  refine aD (N:=57) Tryz.func104 rfl rfl ?_
  intro z hP hO hro hN hQ
  repeat' first |simp(maxSteps:=2000000) (disch:=omega) only[go_sem, *,Tryz.results104,xT] | (first |apply fA |apply fc |apply fB |apply fk |apply fm |apply fq |apply fC |apply fD)<;>intro _ | (first |apply ig |apply ij |apply iq |apply iu)<;>intro _ |refine aG (by cbv) (by first |rfl |cbv) ?_
  all_goals refine⟨?_,fun i hi=>by simp(disch:=omega) only[aY]⟩
  all_goals simp(maxSteps:=2000000) (disch:=omega) only[go_sem, *,gH,gG,vw,Bool.false_eq_true,Int.natCast_zero,List.length_nil]
 ·have Bt:=hN _ _ hb
  refine aD (N:=57) Tryz.func104 rfl rfl ?_
  intro z hP hO hro hN hQ
  repeat' first |simp(maxSteps:=2000000) (disch:=omega) only[go_sem, *,Tryz.results104,xT] | (first |apply fA |apply fc |apply fB |apply fk |apply fm |apply fq |apply fC |apply fD)<;>intro _ | (first |apply ig |apply ij |apply iq |apply iu)<;>intro _ |refine aG (by cbv) (by first |rfl |cbv) ?_
  all_goals refine⟨?_,fun i hi=>by simp(disch:=omega) only[aY]⟩
  all_goals simp(maxSteps:=2000000) (disch:=omega) only[go_sem, *,gH,gG,vw,Bool.false_eq_true,Int.natCast_zero,List.length_nil]
end Go.Proofs.YtfhmopghjoeamaaGreat
set_option linter.unusedVariables false
set_option linter.unusedSimpArgs false
namespace Go.Proofs.YtfhmopghjoeamaaGreat
open Go.Am
def fP:List Value→Option (AP Value)
 | [.agg ⟨[.int .u8 kind,.int .i64 n,s]⟩]=>some ((cV .u64 s).bind fun xs=>cond (decide (xs.length<1000000000000000)) (.pure (.int .i64 (gH (gG kind n xs)))) (.fail ""))
 | _=>none
theorem qd:bL Tryz.prog 104 fP:=by
 refine bQ Ql ct ?_
 intro args m hm
 unfold fP at hm
 split at hm
 ·rename_i kind n s
  simp only[Option.some.injEq] at hm
  subst hm
  refine⟨fun h v=>∃ xs,aZ .u64 h s xs∧xs.length<1000000000000000∧v = .int .i64 (gH (gG kind n xs)),fun h n v s' hR e=>?_,fun h N v hlt hv=>?_⟩
  ·obtain⟨xs,hx,e⟩:=jz hR e
   obtain⟨hl,e⟩:=eU e
   obtain⟨h1,rfl⟩:=run_pure e
   exact⟨h1,.int _ _,xs,hx,of_decide_eq_true hl,rfl⟩
  ·obtain⟨xs,hx,hl,rfl⟩:=hv
   exact AF kind n s xs h N hlt hx hl
 ·simp at hm
def gI (th sl en bu kd dn t0 t1 t2 t3 t4 t5 lo tr ba:Int) (xs:List Int):Bool:=
 !(decide (t0<0)||decide (1024<t0)) && !(decide (t1<0)||decide (1024-t0<t1)) && !(decide (t2<0)||decide (1024-t0-t1<t2)) && !(decide (t3<0)||decide (1024-t0-t1-t2<t3))&&
 !(decide (t4<0)||decide (1024-t0-t1-t2-t3<t4)) && !(decide (t5<0)||decide (1024-t0-t1-t2-t3-t4<t5))&&
 (decide (1≤th)&&decide (th≤64))&&(decide (1≤sl)&&decide (sl≤64)) && !decide (en<1) && !decide (3<en)&&(if en=3 then decide (1≤bu)&&decide (bu≤16) else decide (bu=0))&&
 gG kd dn xs&&(decide (1≤lo)&&decide (lo≤16))&&(decide (1≤tr)&&decide (tr≤255))&&(decide (0≤ba)&&decide (ba≤64))
abbrev O2:Over:=iV [(79,cG),(104,fP)]
theorem Qm:bW Tryz.prog O2:=bn (.cons nr (.cons qd .nil))
theorem oR (b:Bool):(gH b≠0)=(b=false):=by cases b<;>simp[gH]
set_option maxHeartbeats 4000000 in
set_option maxRecDepth 100000 in
theorem AG (th sl en bu kd dn t0 t1 t2 t3 t4 t5 lo tr ba:Int) (s:Value) (xs:List Int) (h:PT ak) (N:Nat) (hN:∀ i B,h.get i=some B→i<N) (hs:aZ .u64 h s xs) (hl:xs.length<1000000000000000):
  gN Tryz.prog O2 65 [.agg ⟨[.int .i64 th,.int .i64 sl,.int .u8 en,.int .i64 bu,.int .u8 kd,.int .i64 dn,s,.int .i64 t0,.int .i64 t1,.int .i64 t2,.int .i64 t3,.int .i64 t4,.int .i64 t5,.int .i64 lo,.int .i64 tr,.int .i64 ba]⟩] h N
   fun v h' n'=>v = .int .i64 (gH (gI th sl en bu kd dn t0 t1 t2 t3 t4 t5 lo tr ba xs))∧∀ i,i<N→h'.get i=h.get i:=by
 obtain⟨a,cap,rfl,-⟩:=hs.len
 have hrd:=fun h' hk z f d ops r K m n=>@oF _ _ h' _ _ hs z f d ops r K m n hk
 refine aD (N:=80) Tryz.func65 rfl rfl ?_
 intro z hP hO hro hN hQ
 repeat' first |simp(maxSteps:=2000000) (disch:=first |omega | (repeat first |assumption |exact Kept.refl _ |refine Kept.set' (by assumption) ?_ ?_ |refine Kept.set (by assumption) ?_ ?_ |omega)) only[go_sem, *,Tryz.results65,cG,fP,sH,oR] | (first |apply fA |apply fc |apply fB |apply fk |apply fm |apply fq |apply fC |apply fD)<;>intro _ | (first |apply ig |apply ij |apply iq |apply iu)<;>intro _ |refine aG (by cbv) (by first |rfl |cbv) ?_
 all_goals refine⟨?_,fun i hi=>by simp(disch:=omega) only[aY]⟩
 all_goals (try simp only[Bool.not_eq_false] at *)
 all_goals simp(maxSteps:=2000000) (disch:=first |omega | (repeat first |assumption |exact Kept.refl _ |refine Kept.set' (by assumption) ?_ ?_ |refine Kept.set (by assumption) ?_ ?_ |omega)) only[go_sem, *,gH,gI,Bool.false_eq_true]
end Go.Proofs.YtfhmopghjoeamaaGreat
