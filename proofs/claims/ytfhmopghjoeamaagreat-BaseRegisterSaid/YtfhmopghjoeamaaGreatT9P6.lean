/-
  A part of the proof: contracts of inner functions.
-/
import Derived.Test.YtfhmopghjoeamaaGreatT9P4
import Derived.Test.YtfhmopghjoeamaaGreatAmY4
set_option linter.unusedVariables false
set_option linter.unusedSimpArgs false
namespace Go.Proofs.YtfhmopghjoeamaaGreat
open Go.Am
def jw (k:IntKind) (h:PT aj) (lo hi:Nat) (s:Value) (xs:List Int):Prop:=
 (s = .slice none 0 0∧xs=[])∨∃ b cap,s = .slice (some ⟨b,0,none⟩) xs.length cap∧lo≤b∧b<hi∧h.get b=some (.cells (PT.ofList .leaf 0 (xs.map (.int k))) false)
theorem jw.gP {k:IntKind} {h:PT aj} {lo hi:Nat} {s:Value} {xs:List Int} (hs:jw k h lo hi s xs):aS k h s xs:=by
 rcases hs with hs | ⟨b,cap,e,_,_,hb⟩
 ·exact .inl hs
 ·refine .inr ⟨b,0,none,cap,_,_,e,hb,?_,?_⟩
  ·simp[iU]
  ·rw[List.drop_zero];exact lq
theorem jw.low {k:IntKind} {h:PT aj} {lo hi j:Nat} {s:Value} {xs:List Int} {B:Option aj} (hs:jw k h lo hi s xs) (hj:j<lo):jw k (h.set j B) lo hi s xs:=by
 rcases hs with hs | ⟨b,cap,e,hl,hh,hb⟩
 ·exact .inl hs
 ·exact .inr ⟨b,cap,e,hl,hh,by rw[PT.bJ _ _ (by omega)];exact hb⟩
theorem clone {O:Over} (s:Value) (xs:List Int) (h:PT aj) (N:Nat) (hW:bX h N) (hs:aS .u64 h s xs) (hl:xs.length<1000000):
  cT Tryz.prog O 66 [s] h N fun v h' n'=>Kept h h'∧jw .u64 h' N n' v xs:=by
 rcases hs.C_ with ⟨rfl,rfl⟩ | ⟨b,off,sp,cap,L,ro,rfl,rfl,hb⟩ | ⟨b,off,sp,cap,L,ro,rfl,hb,hB,hT⟩
 ·refine aB (N:=8) Tryz.func66 rfl rfl ?_
  intro z hP hO hro hN hQ
  repeat' first |simp(maxSteps:=2000000) (disch:=first |omega | (repeat first |assumption |exact Kept.refl _ |refine Kept.set' (by assumption) ?_ ?_ |refine Kept.set (by assumption) ?_ ?_ |omega)) only[go_sem, *,Tryz.results66] | (first |apply fW |apply fS |apply fX |apply fT |apply fU |apply fV |apply fY |apply fZ)<;>intro _ | (first |apply iW |apply iX |apply iY |apply iZ)<;>intro _ |refine aG (by cbv) (by first |rfl |cbv) ?_
  exact⟨Kept.refl _,.inl ⟨rfl,rfl⟩⟩
 ·have Es:=hW.lt hb
  refine aB (N:=8) Tryz.func66 rfl rfl ?_
  intro z hP hO hro hN hQ
  repeat' first |simp(maxSteps:=2000000) (disch:=first |omega | (repeat first |assumption |exact Kept.refl _ |refine Kept.set' (by assumption) ?_ ?_ |refine Kept.set (by assumption) ?_ ?_ |omega)) only[go_sem, *,Tryz.results66] | (first |apply fW |apply fS |apply fX |apply fT |apply fU |apply fV |apply fY |apply fZ)<;>intro _ | (first |apply iW |apply iX |apply iY |apply iZ)<;>intro _ |refine aG (by cbv) (by first |rfl |cbv) ?_
  all_goals refine⟨hW.kept (Nat.le_refl _),.inr ⟨N,0,rfl,Nat.le_refl _,by omega,?_⟩⟩
  all_goals simp(disch:=omega) only[go_sem]
 ·have Es:=hW.lt hb
  by_cases hx:xs.length=0
  ·obtain rfl:xs=[]:=List.eq_nil_of_length_eq_zero hx
   refine aB (N:=8) Tryz.func66 rfl rfl ?_
   intro z hP hO hro hN hQ
   repeat' first |simp(maxSteps:=2000000) (disch:=first |omega | (repeat first |assumption |exact Kept.refl _ |refine Kept.set' (by assumption) ?_ ?_ |refine Kept.set (by assumption) ?_ ?_ |omega)) only[go_sem, *,Tryz.results66] | (first |apply fW |apply fS |apply fX |apply fT |apply fU |apply fV |apply fY |apply fZ)<;>intro _ | (first |apply iW |apply iX |apply iY |apply iZ)<;>intro _ |refine aG (by cbv) (by first |rfl |cbv) ?_
   all_goals refine⟨hW.kept (Nat.le_refl _),.inr ⟨N,0,rfl,Nat.le_refl _,by omega,?_⟩⟩
   all_goals simp(disch:=omega) only[go_sem]
  ·refine aB (N:=8) Tryz.func66 rfl rfl ?_
   intro z hP hO hro hN hQ
   repeat' first |simp(maxSteps:=2000000) (disch:=first |omega | (repeat first |assumption |exact Kept.refl _ |refine Kept.set' (by assumption) ?_ ?_ |refine Kept.set (by assumption) ?_ ?_ |omega)) only[go_sem, *,Tryz.results66] | (first |apply fW |apply fS |apply fX |apply fT |apply fU |apply fV |apply fY |apply fZ)<;>intro _ | (first |apply iW |apply iX |apply iY |apply iZ)<;>intro _ |refine aG (by cbv) (by first |rfl |cbv) ?_
   all_goals refine⟨(hW.kept (Nat.le_refl _)).set' hW (by omega),.inr ⟨N+1,aA+1,rfl,by omega,by omega,?_⟩⟩
   all_goals simp(disch:=omega) only[go_sem]
def b9 (en sl bu:Int):Int:=if en=1 then sl else if en=2 then 2*sl else if en=3 then 4*bu else 0
def kO:List Value→Option (AP Value)
 | [.agg ⟨[.int .i64 th,.int .i64 sl,.int .u8 en,.int .i64 bu,.int .u8 kd,.int .i64 dn,.slice a ln cp,.int .i64 t0,.int .i64 t1,.int .i64 t2,.int .i64 t3,.int .i64 t4,.int .i64 t5,.int .i64 lo,.int .i64 tr,.int .i64 ba]⟩]=>
  if 1≤en∧en≤3 ∧ -1000≤sl∧sl≤1000 ∧ -1000≤bu∧bu≤1000 then some (.pure (.int .i64 (b9 en sl bu))) else none
 | _=>none
theorem F2:bR Tryz.prog 69 kO:=by
 refine b8 (bt .nil) cO ?_
 intro args m hm
 unfold kO at hm
 split at hm
 ·rename_i th sl en bu kd dn a ln cp t0 t1 t2 t3 t4 t5 lo tr ba
  split at hm
  ·rename_i hc
   obtain⟨c1,c2,c3,c4,c5,c6⟩:=hc
   simp only[Option.some.injEq] at hm
   subst hm
   refine⟨fun h v=>v = .int .i64 (b9 en sl bu),fun h n v s' _ e=>?_,fun h N v hlt hv=>?_⟩
   ·obtain⟨h1,rfl⟩:=run_pure e
    exact⟨h1,.int _ _,rfl⟩
   ·subst hv
    have P6:en=1∨en=2∨en=3:=by omega
    rcases P6 with rfl |rfl |rfl
    all_goals
     refine aB (N:=17) Tryz.func69 rfl rfl ?_
     intro z hP hO hro hN hQ
     repeat' first |simp(maxSteps:=2000000) (disch:=first |omega | (repeat first |assumption |exact Kept.refl _ |refine Kept.set' (by assumption) ?_ ?_ |refine Kept.set (by assumption) ?_ ?_ |omega)) only[go_sem, *,Tryz.results69] | (first |apply fW |apply fS |apply fX |apply fT |apply fU |apply fV |apply fY |apply fZ)<;>intro _ | (first |apply iW |apply iX |apply iY |apply iZ)<;>intro _ |refine aG (by cbv) (by first |rfl |cbv) ?_
     refine⟨rfl,fun i hi=>by simp(disch:=omega) only[bf]⟩
  ·simp at hm
 ·simp at hm
def aZ (kd dn:Int) (xs:List Int):Int:=if kd=2 then dn else if kd=3 then xs.length+1 else 1
def tW:List Value→Option (AP Value)
 | [.agg ⟨[.int .u8 kd,.int .i64 dn,s]⟩]=>some ((dJ .u64 s).bind fun xs=>cond (decide (xs.length<1000000000000000)) (.pure (.int .i64 (aZ kd dn xs))) (.fail ""))
 | _=>none
theorem JY:bR Tryz.prog 105 tW:=by
 refine b8 (bt .nil) cO ?_
 intro args m hm
 unfold tW at hm
 split at hm
 ·rename_i kd dn s
  simp only[Option.some.injEq] at hm
  subst hm
  refine⟨fun h v=>∃ xs,aS .u64 h s xs∧xs.length<1000000000000000∧v = .int .i64 (aZ kd dn xs),fun h n v s' hR e=>?_,fun h N v hlt hv=>?_⟩
  ·obtain⟨xs,hx,e⟩:=j5 hR e
   obtain⟨hl,e⟩:=fK e
   obtain⟨h1,rfl⟩:=run_pure e
   exact⟨h1,.int _ _,xs,hx,of_decide_eq_true hl,rfl⟩
  ·obtain⟨xs,hx,hl,rfl⟩:=hv
   obtain⟨a,cap,rfl,-⟩:=hx.len
   refine aB (N:=15) Tryz.func105 rfl rfl ?_
   intro z hP hO hro hN hQ
   repeat' first |simp(maxSteps:=2000000) (disch:=first |omega | (repeat first |assumption |exact Kept.refl _ |refine Kept.set' (by assumption) ?_ ?_ |refine Kept.set (by assumption) ?_ ?_ |omega)) only[go_sem, *,Tryz.results105] | (first |apply fW |apply fS |apply fX |apply fT |apply fU |apply fV |apply fY |apply fZ)<;>intro _ | (first |apply iW |apply iX |apply iY |apply iZ)<;>intro _ |refine aG (by cbv) (by first |rfl |cbv) ?_
   all_goals refine⟨?_,fun i hi=>by simp(disch:=omega) only[bf]⟩
   all_goals simp(maxSteps:=2000000) (disch:=first |omega | (repeat first |assumption |exact Kept.refl _ |refine Kept.set' (by assumption) ?_ ?_ |refine Kept.set (by assumption) ?_ ?_ |omega)) only[go_sem, *,aZ,Bool.false_eq_true]
 ·simp at hm
abbrev O3:Over:=jD [(104,gx),(105,tW)]
theorem VZ:cr Tryz.prog O3:=bt (.cons sC (.cons JY .nil))
def kP:List Value→Option (AP Value)
 | [.agg ⟨[.int .u8 kd,.int .i64 dn,s]⟩]=>some ((dJ .u64 s).bind fun xs=>cond (decide (xs.length<1000000000000000)) (.pure (if iq kd dn xs then .tuple ⟨[.int .i64 (aZ kd dn xs),.int .i64 0]⟩ else .tuple ⟨[.int .i64 0,.int .i64 2]⟩)) (.fail ""))
 | _=>none
theorem Ga:bR Tryz.prog 67 kP:=by
 refine b8 VZ cO ?_
 intro args m hm
 unfold kP at hm
 split at hm
 ·rename_i kd dn s
  simp only[Option.some.injEq] at hm
  subst hm
  refine⟨fun h v=>∃ xs,aS .u64 h s xs∧xs.length<1000000000000000∧v=if iq kd dn xs then .tuple ⟨[.int .i64 (aZ kd dn xs),.int .i64 0]⟩ else .tuple ⟨[.int .i64 0,.int .i64 2]⟩,fun h n v s' hR e=>?_,fun h N v hlt hv=>?_⟩
  ·obtain⟨xs,hx,e⟩:=j5 hR e
   obtain⟨hl,e⟩:=fK e
   obtain⟨h1,rfl⟩:=run_pure e
   refine⟨h1,?_,xs,hx,of_decide_eq_true hl,rfl⟩
   split
   ·exact .tuple _ (by simp;exact⟨.int _ _,.int _ _⟩)
   ·exact .tuple _ (by simp;exact⟨.int _ _,.int _ _⟩)
  ·obtain⟨xs,hx,hl,rfl⟩:=hv
   have hrd:=fun h' hk z f d ops r K m n=>@qx _ _ h' _ _ hx z f d ops r K m n hk
   obtain⟨a,cap,rfl,-⟩:=hx.len
   refine aB (N:=12) Tryz.func67 rfl rfl ?_
   intro z hP hO hro hN hQ
   repeat' first |simp(maxSteps:=2000000) (disch:=first |omega | (repeat first |assumption |exact Kept.refl _ |refine Kept.set' (by assumption) ?_ ?_ |refine Kept.set (by assumption) ?_ ?_ |omega)) only[go_sem, *,Tryz.results67,gx,tW,qF] | (first |apply fW |apply fS |apply fX |apply fT |apply fU |apply fV |apply fY |apply fZ)<;>intro _ | (first |apply iW |apply iX |apply iY |apply iZ)<;>intro _ |refine aG (by cbv) (by first |rfl |cbv) ?_
   all_goals refine⟨?_,fun i hi=>by simp(disch:=omega) only[bf]⟩
   all_goals (try simp only[Bool.not_eq_false] at *)
   all_goals simp(maxSteps:=2000000) (disch:=first |omega | (repeat first |assumption |exact Kept.refl _ |refine Kept.set' (by assumption) ?_ ?_ |refine Kept.set (by assumption) ?_ ?_ |omega)) only[go_sem, *,iu,Bool.false_eq_true]
 ·simp at hm
end Go.Proofs.YtfhmopghjoeamaaGreat
