/-
  A part of the proof: contracts of inner functions.
-/
import Derived.Test.YtofmbmclopgldaaGreatT9P4
import Derived.Test.YtofmbmclopgldaaGreatAmY4
import Derived.Test.YtofmbmclopgldaaGreatAmV4
set_option linter.unusedVariables false
set_option linter.unusedSimpArgs false
namespace Go.Proofs.YtofmbmclopgldaaGreat
open Go.Am
def jA (k:IntKind) (h:PT ak) (lo hi:Nat) (s:Value) (xs:List Int):Prop:=
 (s = .slice none 0 0∧xs=[])∨∃ b cap,s = .slice (some ⟨b,0,none⟩) xs.length cap∧lo≤b∧b<hi∧h.get b=some (.cells (PT.ofList .leaf 0 (xs.map (.int k))) false)
theorem jA.kF {k:IntKind} {h:PT ak} {lo hi:Nat} {s:Value} {xs:List Int} (hs:jA k h lo hi s xs):aW k h s xs:=by
 rcases hs with hs | ⟨b,cap,e,_,_,hb⟩
 ·exact .inl hs
 ·refine .inr ⟨b,0,none,cap,_,_,e,hb,?_,?_⟩
  ·simp[jT]
  ·rw[List.drop_zero];exact nC
theorem jA.low {k:IntKind} {h:PT ak} {lo hi j:Nat} {s:Value} {xs:List Int} {B:Option ak} (hs:jA k h lo hi s xs) (hj:j<lo):jA k (h.set j B) lo hi s xs:=by
 rcases hs with hs | ⟨b,cap,e,hl,hh,hb⟩
 ·exact .inl hs
 ·exact .inr ⟨b,cap,e,hl,hh,by rw[PT.bO _ _ (by omega)];exact hb⟩
theorem clone {O:Over} (s:Value) (xs:List Int) (h:PT ak) (N:Nat) (hW:bL h N) (hs:aW .u64 h s xs) (hl:xs.length<1000000):
  cW Tryz.prog O 109 [s] h N fun v h' n'=>Kept h h'∧jA .u64 h' N n' v xs:=by
 rcases hs.AX with ⟨rfl,rfl⟩ | ⟨b,off,sp,cap,L,ro,rfl,rfl,hb⟩ | ⟨b,off,sp,cap,L,ro,rfl,hb,hB,hT⟩
 ·refine ay (N:=8) Tryz.func109 rfl rfl ?_
  intro z hP hO hro hN hQ
  repeat' first |simp(maxSteps:=2000000) (disch:=first |omega | (repeat first |assumption |exact Kept.refl _ |refine Kept.set' (by assumption) ?_ ?_ |refine Kept.set (by assumption) ?_ ?_ |omega)) only[go_sem, *,Tryz.results109] | (first |apply fZ |apply fV |apply f_ |apply fW |apply fX |apply fY |apply ga |apply gd)<;>intro _ | (first |apply iz |apply iA |apply iB |apply iC)<;>intro _ |refine aK (by cbv) (by first |rfl |cbv) ?_
  exact⟨Kept.refl _,.inl ⟨rfl,rfl⟩⟩
 ·have wQ:=hW.lt hb
  refine ay (N:=8) Tryz.func109 rfl rfl ?_
  intro z hP hO hro hN hQ
  repeat' first |simp(maxSteps:=2000000) (disch:=first |omega | (repeat first |assumption |exact Kept.refl _ |refine Kept.set' (by assumption) ?_ ?_ |refine Kept.set (by assumption) ?_ ?_ |omega)) only[go_sem, *,Tryz.results109] | (first |apply fZ |apply fV |apply f_ |apply fW |apply fX |apply fY |apply ga |apply gd)<;>intro _ | (first |apply iz |apply iA |apply iB |apply iC)<;>intro _ |refine aK (by cbv) (by first |rfl |cbv) ?_
  all_goals refine⟨hW.kept (Nat.le_refl _),.inr ⟨N,0,rfl,Nat.le_refl _,by omega,?_⟩⟩
  all_goals simp(disch:=omega) only[go_sem]
 ·have wQ:=hW.lt hb
  by_cases hx:xs.length=0
  ·obtain rfl:xs=[]:=List.eq_nil_of_length_eq_zero hx
   refine ay (N:=8) Tryz.func109 rfl rfl ?_
   intro z hP hO hro hN hQ
   repeat' first |simp(maxSteps:=2000000) (disch:=first |omega | (repeat first |assumption |exact Kept.refl _ |refine Kept.set' (by assumption) ?_ ?_ |refine Kept.set (by assumption) ?_ ?_ |omega)) only[go_sem, *,Tryz.results109] | (first |apply fZ |apply fV |apply f_ |apply fW |apply fX |apply fY |apply ga |apply gd)<;>intro _ | (first |apply iz |apply iA |apply iB |apply iC)<;>intro _ |refine aK (by cbv) (by first |rfl |cbv) ?_
   all_goals refine⟨hW.kept (Nat.le_refl _),.inr ⟨N,0,rfl,Nat.le_refl _,by omega,?_⟩⟩
   all_goals simp(disch:=omega) only[go_sem]
  ·refine ay (N:=8) Tryz.func109 rfl rfl ?_
   intro z hP hO hro hN hQ
   repeat' first |simp(maxSteps:=2000000) (disch:=first |omega | (repeat first |assumption |exact Kept.refl _ |refine Kept.set' (by assumption) ?_ ?_ |refine Kept.set (by assumption) ?_ ?_ |omega)) only[go_sem, *,Tryz.results109] | (first |apply fZ |apply fV |apply f_ |apply fW |apply fX |apply fY |apply ga |apply gd)<;>intro _ | (first |apply iz |apply iA |apply iB |apply iC)<;>intro _ |refine aK (by cbv) (by first |rfl |cbv) ?_
   all_goals refine⟨(hW.kept (Nat.le_refl _)).set' hW (by omega),.inr ⟨N+1,aB+1,rfl,by omega,by omega,?_⟩⟩
   all_goals simp(disch:=omega) only[go_sem]
def cJ (en sl bu:Int):Int:=if en=1 then sl else if en=2 then 2*sl else if en=3 then 4*bu else 0
def mV:List Value→Option (AP Value)
 | [.agg ⟨[.int .i64 th,.int .i64 sl,.int .u8 en,.int .i64 bu,.int .u8 kd,.int .i64 dn,.slice a ln cp,.int .i64 t0,.int .i64 t1,.int .i64 t2,.int .i64 t3,.int .i64 t4,.int .i64 t5,.int .i64 lo,.int .i64 tr,.int .i64 ba]⟩]=>
  if 1≤en∧en≤3 ∧ -1000≤sl∧sl≤1000 ∧ -1000≤bu∧bu≤1000 then some (.pure (.int .i64 (cJ en sl bu))) else none
 | _=>none
theorem KB:bf Tryz.prog 111 mV:=by
 refine bK (aN .nil) bA ?_
 intro args m hm
 unfold mV at hm
 split at hm
 ·rename_i th sl en bu kd dn a ln cp t0 t1 t2 t3 t4 t5 lo tr ba
  split at hm
  ·rename_i hc
   obtain⟨c1,c2,c3,c4,c5,c6⟩:=hc
   simp only[Option.some.injEq] at hm
   subst hm
   refine⟨fun h v=>v = .int .i64 (cJ en sl bu),fun h n v s' _ e=>?_,fun h N v hlt hv=>?_⟩
   ·obtain⟨h1,rfl⟩:=run_pure e
    exact⟨h1,.int _ _,rfl⟩
   ·subst hv
    have VA:en=1∨en=2∨en=3:=by omega
    rcases VA with rfl |rfl |rfl
    all_goals
     refine ay (N:=17) Tryz.func111 rfl rfl ?_
     intro z hP hO hro hN hQ
     repeat' first |simp(maxSteps:=2000000) (disch:=first |omega | (repeat first |assumption |exact Kept.refl _ |refine Kept.set' (by assumption) ?_ ?_ |refine Kept.set (by assumption) ?_ ?_ |omega)) only[go_sem, *,Tryz.results111] | (first |apply fZ |apply fV |apply f_ |apply fW |apply fX |apply fY |apply ga |apply gd)<;>intro _ | (first |apply iz |apply iA |apply iB |apply iC)<;>intro _ |refine aK (by cbv) (by first |rfl |cbv) ?_
     refine⟨rfl,fun i hi=>by simp(disch:=omega) only[aE]⟩
  ·simp at hm
 ·simp at hm
def a_ (kd dn:Int) (xs:List Int):Int:=if kd=2 then dn else if kd=3 then xs.length+1 else 1
def wR:List Value→Option (AP Value)
 | [.agg ⟨[.int .u8 kd,.int .i64 dn,s]⟩]=>some ((dh .u64 s).bind fun xs=>cond (decide (xs.length<1000000000000000)) (.pure (.int .i64 (a_ kd dn xs))) (.fail ""))
 | _=>none
theorem Pb:bf Tryz.prog 162 wR:=by
 refine bK (aN .nil) bA ?_
 intro args m hm
 unfold wR at hm
 split at hm
 ·rename_i kd dn s
  simp only[Option.some.injEq] at hm
  subst hm
  refine⟨fun h v=>∃ xs,aW .u64 h s xs∧xs.length<1000000000000000∧v = .int .i64 (a_ kd dn xs),fun h n v s' hR e=>?_,fun h N v hlt hv=>?_⟩
  ·obtain⟨xs,hx,e⟩:=gx hR e
   obtain⟨hl,e⟩:=cU e
   obtain⟨h1,rfl⟩:=run_pure e
   exact⟨h1,.int _ _,xs,hx,of_decide_eq_true hl,rfl⟩
  ·obtain⟨xs,hx,hl,rfl⟩:=hv
   obtain⟨a,cap,rfl,-⟩:=hx.len
   refine ay (N:=15) Tryz.func162 rfl rfl ?_
   intro z hP hO hro hN hQ
   repeat' first |simp(maxSteps:=2000000) (disch:=first |omega | (repeat first |assumption |exact Kept.refl _ |refine Kept.set' (by assumption) ?_ ?_ |refine Kept.set (by assumption) ?_ ?_ |omega)) only[go_sem, *,Tryz.results162] | (first |apply fZ |apply fV |apply f_ |apply fW |apply fX |apply fY |apply ga |apply gd)<;>intro _ | (first |apply iz |apply iA |apply iB |apply iC)<;>intro _ |refine aK (by cbv) (by first |rfl |cbv) ?_
   all_goals refine⟨?_,fun i hi=>by simp(disch:=omega) only[aE]⟩
   all_goals simp(maxSteps:=2000000) (disch:=first |omega | (repeat first |assumption |exact Kept.refl _ |refine Kept.set' (by assumption) ?_ ?_ |refine Kept.set (by assumption) ?_ ?_ |omega)) only[go_sem, *,a_,Bool.false_eq_true]
 ·simp at hm
abbrev O3:Over:=eN [(161,iU),(162,wR)]
theorem ab9:cr Tryz.prog O3:=aN (.cons ve (.cons Pb .nil))
def mW:List Value→Option (AP Value)
 | [.agg ⟨[.int .u8 kd,.int .i64 dn,s]⟩]=>some ((dh .u64 s).bind fun xs=>cond (decide (xs.length<1000000000000000)) (.pure (if cI kd dn xs then .tuple ⟨[.int .i64 (a_ kd dn xs),.int .i64 0]⟩ else .tuple ⟨[.int .i64 0,.int .i64 2]⟩)) (.fail ""))
 | _=>none
theorem KC:bf Tryz.prog 78 mW:=by
 refine bK ab9 bA ?_
 intro args m hm
 unfold mW at hm
 split at hm
 ·rename_i kd dn s
  simp only[Option.some.injEq] at hm
  subst hm
  refine⟨fun h v=>∃ xs,aW .u64 h s xs∧xs.length<1000000000000000∧v=if cI kd dn xs then .tuple ⟨[.int .i64 (a_ kd dn xs),.int .i64 0]⟩ else .tuple ⟨[.int .i64 0,.int .i64 2]⟩,fun h n v s' hR e=>?_,fun h N v hlt hv=>?_⟩
  ·obtain⟨xs,hx,e⟩:=gx hR e
   obtain⟨hl,e⟩:=cU e
   obtain⟨h1,rfl⟩:=run_pure e
   refine⟨h1,?_,xs,hx,of_decide_eq_true hl,rfl⟩
   split
   ·exact .tuple _ (by simp;exact⟨.int _ _,.int _ _⟩)
   ·exact .tuple _ (by simp;exact⟨.int _ _,.int _ _⟩)
  ·obtain⟨xs,hx,hl,rfl⟩:=hv
   have hrd:=fun h' hk z f d ops r K m n=>@ij _ _ h' _ _ hx z f d ops r K m n hk
   obtain⟨a,cap,rfl,-⟩:=hx.len
   refine ay (N:=12) Tryz.func78 rfl rfl ?_
   intro z hP hO hro hN hQ
   repeat' first |simp(maxSteps:=2000000) (disch:=first |omega | (repeat first |assumption |exact Kept.refl _ |refine Kept.set' (by assumption) ?_ ?_ |refine Kept.set (by assumption) ?_ ?_ |omega)) only[go_sem, *,Tryz.results78,iU,wR,l8] | (first |apply fZ |apply fV |apply f_ |apply fW |apply fX |apply fY |apply ga |apply gd)<;>intro _ | (first |apply iz |apply iA |apply iB |apply iC)<;>intro _ |refine aK (by cbv) (by first |rfl |cbv) ?_
   all_goals refine⟨?_,fun i hi=>by simp(disch:=omega) only[aE]⟩
   all_goals (try simp only[Bool.not_eq_false] at *)
   all_goals simp(maxSteps:=2000000) (disch:=first |omega | (repeat first |assumption |exact Kept.refl _ |refine Kept.set' (by assumption) ?_ ?_ |refine Kept.set (by assumption) ?_ ?_ |omega)) only[go_sem, *,cN,Bool.false_eq_true]
 ·simp at hm
end Go.Proofs.YtofmbmclopgldaaGreat
set_option linter.unusedVariables false
set_option linter.unusedSimpArgs false
namespace Go.Proofs.YtofmbmclopgldaaGreat
open Go.Am
end Go.Proofs.YtofmbmclopgldaaGreat
