/-
  A part of the proof: contracts of inner functions.
-/
import Derived.Test.YtofmbmclopgldaaGreatT9P4
import Derived.Test.YtofmbmclopgldaaGreatT9C
import Derived.Test.YtofmbmclopgldaaGreatT9P7
set_option linter.unusedVariables false
set_option linter.unusedSimpArgs false
namespace Go.Proofs.YtofmbmclopgldaaGreat
open Go.Am
theorem Hx {xs:List Int} (h:0<xs.length) (h0:∀ x∈xs,0≤x):ux 0 xs=if xs.getD 0 0=0 then false else ux (xs.getD 0 0) (xs.drop 1):=by
 have:=tG (b:=0) (xs:=xs) (i:=0) h
 rw[List.drop_zero] at this
 rw[this]
 have h1:0≤xs.getD 0 0:=by
  match xs,h with
  |x::r,_=>exact h0 x (by simp)
 by_cases hx:xs.getD 0 0=0
 ·rw[if_pos (by omega),if_pos hx]
 ·rw[if_neg (by omega),if_neg hx]
set_option maxRecDepth 100000 in
set_option maxHeartbeats 4000000 in
theorem Pj {O:Over} (kd n:Int) (s:Value) (xs:List Int) (h:PT ak) (N:Nat) (hN:∀ i B,h.get i=some B→i<N) (hs:aW .u64 h s xs) (hl:xs.length<1000000000000000) (h0:∀ x∈xs,0≤x):
  cW Tryz.prog O 173 [.agg ⟨[.int .u8 kd,.int .i64 n,s]⟩] h N fun v h' n'=>v = .int .i64 (cN (cI kd n xs))∧∀ i,i<N→h'.get i=h.get i:=by
 have hW:=bL.of_lt hN
 by_cases h3:kd=3∧n=0∧1≤xs.length∧xs.length≤63
 ·obtain⟨rfl,rfl,hx1,hx2⟩:=h3
  rcases hs.AX with ⟨rfl,rfl⟩ | ⟨b,off,sp,cap,L,ro,rfl,rfl,hb⟩ | ⟨b,off,sp,cap,L,ro,rfl,hb,hB,hT⟩
  ·simp at hx1
  ·simp at hx1
  clear hB hs
  have hL:=mR hT 0 (by omega)
  have wQ:=hN _ _ hb
  have amr: ¬ ((xs.length:Int)<1):=by omega
  have Hy: ¬ (63<(xs.length:Int)):=by omega
  have hd:cI 3 0 xs=ux 0 xs:=by
   have e1:(1:Int)≤xs.length:=by omega
   have e2:(xs.length:Int)<64:=by omega
   simp[cI,e1,e2]
  rw[hd,Hx hx1 h0]
  clear hN h0 hd
  refine ay (N:=76) Tryz.func173 rfl rfl fun z hP hO hro hN hQ=>?_
  rw[Nat.add_zero] at hL
  repeat' first |simp(maxSteps:=2000000) (disch:=omega) only[go_sem, *,Tryz.results173] | (first |apply fZ |apply fV |apply f_ |apply fW |apply fX |apply fY |apply ga |apply gd)<;>intro _ | (first |apply iz |apply iA |apply iB |apply iC)<;>intro _ |refine aK (id:=14) (L:=rD) (by kernel_rfl) (by kernel_rfl) ?_
  ·refine⟨by simp[cN, *],fun i hi=>by simp(disch:=omega) only[aE]⟩
  ·rename_i hx0
   rw[if_neg hx0] at hQ
   clear hL hx0
   have R2:(h.set N (some (.cells (PT.ofList .leaf 0 [.int .u8 3,.int .i64 0,.slice (some ⟨b,off,sp⟩) xs.length cap]) false))).get b=some (.cells (PT.ofList .leaf 0 L) ro):=by rw[aE (by omega)];exact hb
   have MD:∀ i,i<N→(h.set N (some (.cells (PT.ofList .leaf 0 [.int .u8 3,.int .i64 0,.slice (some ⟨b,off,sp⟩) xs.length cap]) false))).get i=h.get i:=fun i hi=>by rw[aE (by omega)]
   generalize hh2:h.set N _=h2 at*
   have e2:=sS hh2
   clear hh2
   refine bY (fun t m h' n'=>∃ i:Nat,1≤i∧i≤xs.length∧t=xs.length+1-i∧ux (xs.getD 0 0) (xs.drop 1)=ux (xs.getD (i-1) 0) (xs.drop i)∧m.n=76∧m.eS=[]∧m.get 1 = .pointer (some ⟨N,0,none⟩)∧m.get 3 = .int .i64 i∧h2=h') xs.length ?_ ?_
   ·refine⟨1,by omega,by omega,by omega,rfl,?_⟩
    simp(maxSteps:=2000000) (disch:=omega) only[go_sem, *]
    all_goals simp
   ·rintro t m h' n' ih ⟨i,hi1,hi2,rfl,pV,m1,m2,m3,m4,e⟩
    subst e
    by_cases hlt:i<xs.length
    ·obtain⟨j,hj⟩:∃ j,j=i-1:=⟨_,rfl⟩
     have hL1:=mR hT i hlt
     have ZW:=mR hT j (by omega)
     have hji:(i:Int)-1=j:=by omega
     have RC:(i:Int)<xs.length:=by omega
     rw[tG hlt,←hj] at pV
     clear hT hj
     repeat' first |simp(maxSteps:=2000000) (disch:=omega) only[go_sem, *,Tryz.results173] | (first |apply fZ |apply fV |apply f_ |apply fW |apply fX |apply fY |apply ga |apply gd)<;>intro _ | (first |apply iz |apply iA |apply iB |apply iC)<;>intro _ |refine aK (id:=14) (L:=rD) (by kernel_rfl) (by kernel_rfl) ?_
     ·exact⟨by simp[cN],MD⟩
     ·rename_i hle
      rw[if_neg hle] at pV
      refine ih (xs.length+1-(i+1)) _ _ _ (by omega) ⟨i+1,by omega,by omega,by omega,by simpa using pV,?_⟩
      clear ih
      simp(maxSteps:=2000000) (disch:=omega) only[go_sem, *]
      all_goals simp
    ·have RC: ¬ (i:Int)<xs.length:=by omega
     have xI:xs.drop i=[]:=List.drop_eq_nil_of_le (by omega)
     rw[xI,ux] at pV
     clear hT xI
     repeat' first |simp(maxSteps:=2000000) (disch:=omega) only[go_sem, *,Tryz.results173] | (first |apply fZ |apply fV |apply f_ |apply fW |apply fX |apply fY |apply ga |apply gd)<;>intro _ | (first |apply iz |apply iA |apply iB |apply iC)<;>intro _ |refine aK (id:=14) (L:=rD) (by kernel_rfl) (by kernel_rfl) ?_
     exact⟨by simp[cN],MD⟩
 ·obtain⟨a,cap,rfl,hA⟩:=hs.len
  clear hs hA
  refine ay (N:=76) Tryz.func173 rfl rfl fun z hP hO hro hN hQ=>?_
  repeat' first |simp(maxSteps:=2000000) (disch:=omega) only[go_sem, *,Tryz.results173] | (first |apply fZ |apply fV |apply f_ |apply fW |apply fX |apply fY |apply ga |apply gd)<;>intro _ | (first |apply iz |apply iA |apply iB |apply iC)<;>intro _ |refine aK (id:=14) (L:=rD) (by kernel_rfl) (by kernel_rfl) ?_
  all_goals first | (exfalso;omega) |skip
  all_goals refine⟨?_,fun i hi=>by simp(disch:=omega) only[aE]⟩
  all_goals simp(maxSteps:=2000000) (disch:=omega) only[go_sem, *,cN,cI,Bool.false_eq_true]
  all_goals rw[if_neg (fun hh=>by simp only[Bool.and_eq_true,decide_eq_true_eq] at hh;omega)]
end Go.Proofs.YtofmbmclopgldaaGreat
set_option linter.unusedVariables false
set_option linter.unusedSimpArgs false
namespace Go.Proofs.YtofmbmclopgldaaGreat
open Go.Am
def gC (xs:List Int):Bool:=decide (xs.length<1000000000000000)&&xs.all fun x=>decide (0≤x)
theorem mX {xs:List Int} (h:gC xs=true):xs.length<1000000000000000∧∀ x∈xs,0≤x:=by
 simp[gC] at h;exact h
def iM:List Value→Option (AP Value)
 | [.agg ⟨[.int .u8 kind,.int .i64 n,s]⟩]=>some ((dh .u64 s).bind fun xs=>cond (gC xs) (.pure (.int .i64 (cN (cI kind n xs)))) (.fail ""))
 | _=>none
theorem KM:bf Tryz.prog 173 iM:=by
 refine bK (aN .nil) bA ?_
 intro args m hm
 unfold iM at hm
 split at hm
 ·rename_i kind n s
  simp only[Option.some.injEq] at hm
  subst hm
  refine⟨fun h v=>∃ xs,aW .u64 h s xs∧gC xs=true∧v = .int .i64 (cN (cI kind n xs)),fun h n v s' hR e=>?_,fun h N v hlt hv=>?_⟩
  ·obtain⟨xs,hx,e⟩:=gx hR e
   obtain⟨hl,e⟩:=cU e
   obtain⟨h1,rfl⟩:=run_pure e
   exact⟨h1,.int _ _,xs,hx,hl,rfl⟩
  ·obtain⟨xs,hx,hl,rfl⟩:=hv
   exact Pj kind n s xs h N hlt hx (mX hl).1 (mX hl).2
 ·simp at hm
abbrev Or3:Over:=eN [(173,iM)]
theorem Hz:cr Tryz.prog Or3:=aN (.cons KM .nil)
def gR:List Value→Option (AP Value)
 | [.agg ⟨[.int .u8 kd,.int .i64 dn,s]⟩]=>some ((dh .u64 s).bind fun xs=>cond (gC xs) (.pure (if cI kd dn xs then .tuple ⟨[.int .i64 (a_ kd dn xs),.int .i64 0]⟩ else .tuple ⟨[.int .i64 0,.int .i64 2]⟩)) (.fail ""))
 | _=>none
set_option maxRecDepth 100000 in
theorem tM:bf Tryz.prog 100 gR:=by
 refine bK Hz bA ?_
 intro args m hm
 unfold gR at hm
 split at hm
 ·rename_i kd dn s
  simp only[Option.some.injEq] at hm
  subst hm
  refine⟨fun h v=>∃ xs,aW .u64 h s xs∧gC xs=true∧v=if cI kd dn xs then .tuple ⟨[.int .i64 (a_ kd dn xs),.int .i64 0]⟩ else .tuple ⟨[.int .i64 0,.int .i64 2]⟩,fun h n v s' hR e=>?_,fun h N v hlt hv=>?_⟩
  ·obtain⟨xs,hx,e⟩:=gx hR e
   obtain⟨hl,e⟩:=cU e
   obtain⟨h1,rfl⟩:=run_pure e
   refine⟨h1,?_,xs,hx,hl,rfl⟩
   split
   ·exact .tuple _ (by simp;exact⟨.int _ _,.int _ _⟩)
   ·exact .tuple _ (by simp;exact⟨.int _ _,.int _ _⟩)
  ·obtain⟨xs,hx,hl,rfl⟩:=hv
   have Vu:=(mX hl).1
   have hrd:=fun h' hk z f d ops r K m n=>@ij _ _ h' _ _ hx z f d ops r K m n hk
   obtain⟨a,cap,rfl,-⟩:=hx.len
   refine ay (N:=22) Tryz.func100 rfl rfl ?_
   intro z hP hO hro hN hQ
   repeat' first |simp(maxSteps:=2000000) (disch:=first |omega | (repeat first |assumption |exact Kept.refl _ |refine Kept.set' (by assumption) ?_ ?_ |refine Kept.set (by assumption) ?_ ?_ |omega)) only[go_sem, *,Tryz.results100,iM,l8] | (first |apply fZ |apply fV |apply f_ |apply fW |apply fX |apply fY |apply ga |apply gd)<;>intro _ | (first |apply iz |apply iA |apply iB |apply iC)<;>intro _ |refine aK (by cbv) (by first |rfl |cbv) ?_
   all_goals refine⟨?_,fun i hi=>by simp(disch:=omega) only[aE]⟩
   all_goals (try simp only[Bool.not_eq_false] at *)
   all_goals simp(maxSteps:=2000000) (disch:=first |omega | (repeat first |assumption |exact Kept.refl _ |refine Kept.set' (by assumption) ?_ ?_ |refine Kept.set (by assumption) ?_ ?_ |omega)) only[go_sem, *,cN,a_,Bool.false_eq_true]
   all_goals (rename_i hk hd;subst hk;rw[if_pos hd])
 ·simp at hm
theorem pY {th sl en bu kd dn t0 t1 t2 t3 t4 t5 lo tr ba:Int} {xs:List Int}:gB th sl en bu kd dn t0 t1 t2 t3 t4 t5 lo tr ba xs=true↔
  (0≤t0∧0≤t1∧0≤t2∧0≤t3∧0≤t4∧0≤t5∧t0+t1+t2+t3+t4+t5≤1024∧1≤th∧th≤64∧1≤sl∧sl≤64∧1≤en∧en≤3∧(en=3→1≤bu∧bu≤16)∧(en≠3→bu=0)∧1≤lo∧lo≤16∧1≤tr∧tr≤255∧0≤ba∧ba≤64)∧cI kd dn xs=true:=by
 simp only[gB,Bool.and_eq_true,Bool.not_eq_true',Bool.or_eq_false_iff,decide_eq_true_eq,decide_eq_false_iff_not]
 by_cases h3:en=3
 ·simp only[h3,if_true,Bool.and_eq_true,decide_eq_true_eq,forall_const,ne_eq,not_true_eq_false,false_implies,true_and,and_true,Std.le_refl,Int.reduceLE,implies_true]
  constructor
  ·rintro ⟨⟨⟨⟨⟨⟨⟨⟨⟨⟨⟨⟨⟨⟨a0,a1⟩,a2⟩,a3⟩,a4⟩,a5⟩,a6⟩,a7⟩,a8⟩,a9⟩,Pc⟩,RB⟩,ZR⟩,a13⟩,a14⟩
   exact⟨by omega,RB⟩
  ·rintro ⟨hh,hd⟩
   refine⟨⟨⟨⟨⟨⟨⟨⟨⟨⟨⟨⟨⟨⟨?_,?_⟩,?_⟩,?_⟩,?_⟩,?_⟩,?_⟩,?_⟩,?_⟩,?_⟩,?_⟩,hd⟩,?_⟩,?_⟩,?_⟩<;>omega
 ·simp only[if_neg h3,decide_eq_true_eq]
  constructor
  ·rintro ⟨⟨⟨⟨⟨⟨⟨⟨⟨⟨⟨⟨⟨⟨a0,a1⟩,a2⟩,a3⟩,a4⟩,a5⟩,a6⟩,a7⟩,a8⟩,a9⟩,Pc⟩,RB⟩,ZR⟩,a13⟩,a14⟩
   exact⟨by omega,RB⟩
  ·rintro ⟨hh,hd⟩
   refine⟨⟨⟨⟨⟨⟨⟨⟨⟨⟨⟨⟨⟨⟨?_,?_⟩,?_⟩,?_⟩,?_⟩,?_⟩,?_⟩,?_⟩,?_⟩,?_⟩,?_⟩,hd⟩,?_⟩,?_⟩,?_⟩<;>omega
theorem vh {b:Bool} (h: ¬ b=true):cN b=2:=by simp[cN,h]
theorem Bp {b:Bool} (h:b=true):cN b=0:=by simp[cN,h]
end Go.Proofs.YtofmbmclopgldaaGreat
set_option linter.unusedVariables false
set_option linter.unusedSimpArgs false
namespace Go.Proofs.YtofmbmclopgldaaGreat
open Go.Am
set_option maxHeartbeats 4000000 in
set_option maxRecDepth 100000 in
theorem HA (th sl en bu kd dn t0 t1 t2 t3 t4 t5 lo tr ba:Int) (s:Value) (xs:List Int) (h:PT ak) (N:Nat) (hN:∀ i B,h.get i=some B→i<N) (hs:aW .u64 h s xs) (hl:gC xs=true):
  cW Tryz.prog Or3 209 [.agg ⟨[.int .i64 th,.int .i64 sl,.int .u8 en,.int .i64 bu,.int .u8 kd,.int .i64 dn,s,.int .i64 t0,.int .i64 t1,.int .i64 t2,.int .i64 t3,.int .i64 t4,.int .i64 t5,.int .i64 lo,.int .i64 tr,.int .i64 ba]⟩] h N
   fun v h' n'=>v = .int .i64 (cN (gB th sl en bu kd dn t0 t1 t2 t3 t4 t5 lo tr ba xs))∧∀ i,i<N→h'.get i=h.get i:=by
 obtain⟨a,cap,rfl,-⟩:=hs.len
 have hrd:=fun h' hk z f d ops r K m n=>@ij _ _ h' _ _ hs z f d ops r K m n hk
 refine ay (N:=112) Tryz.func209 rfl rfl ?_
 intro z hP hO hro hN hQ
 repeat' first |simp(maxSteps:=2000000) (disch:=first |omega | (repeat first |assumption |exact Kept.refl _ |refine Kept.set' (by assumption) ?_ ?_ |refine Kept.set (by assumption) ?_ ?_ |omega)) only[go_sem, *,Tryz.results209,iM,bX,l8] | (first |apply fZ |apply fV |apply f_ |apply fW |apply fX |apply fY |apply ga |apply gd)<;>intro _ | (first |apply iz |apply iA |apply iB |apply iC)<;>intro _ |refine aK (by cbv) (by first |rfl |cbv) ?_
 all_goals refine⟨?_,fun i hi=>by simp(disch:=omega) only[aE]⟩
 all_goals first
  | (rw[vh];rw[pY];intro hh;omega)
  | (rw[vh];rw[pY];intro hh;simp_all;done)
  | (rw[Bp];rw[pY];refine⟨by omega,by simp_all⟩)
def pZ:List Value→Option (AP Value)
 | [.agg ⟨[.int .i64 th,.int .i64 sl,.int .u8 en,.int .i64 bu,.int .u8 kd,.int .i64 dn,s,.int .i64 t0,.int .i64 t1,.int .i64 t2,.int .i64 t3,.int .i64 t4,.int .i64 t5,.int .i64 lo,.int .i64 tr,.int .i64 ba]⟩]=>
  some ((dh .u64 s).bind fun xs=>cond (gC xs) (.pure (.int .i64 (cN (gB th sl en bu kd dn t0 t1 t2 t3 t4 t5 lo tr ba xs)))) (.fail ""))
 | _=>none
theorem D1:bf Tryz.prog 209 pZ:=by
 refine bK Hz bA ?_
 intro args m hm
 unfold pZ at hm
 split at hm
 ·rename_i th sl en bu kd dn s t0 t1 t2 t3 t4 t5 lo tr ba
  simp only[Option.some.injEq] at hm
  subst hm
  refine⟨fun h v=>∃ xs,aW .u64 h s xs∧gC xs=true∧v = .int .i64 (cN (gB th sl en bu kd dn t0 t1 t2 t3 t4 t5 lo tr ba xs)),fun h n v s' hR e=>?_,fun h N v hlt hv=>?_⟩
  ·obtain⟨xs,hx,e⟩:=gx hR e
   obtain⟨hl,e⟩:=cU e
   obtain⟨h1,rfl⟩:=run_pure e
   exact⟨h1,.int _ _,xs,hx,hl,rfl⟩
  ·obtain⟨xs,hx,hl,rfl⟩:=hv
   exact HA th sl en bu kd dn t0 t1 t2 t3 t4 t5 lo tr ba s xs h N hlt hx hl
 ·simp at hm
end Go.Proofs.YtofmbmclopgldaaGreat
