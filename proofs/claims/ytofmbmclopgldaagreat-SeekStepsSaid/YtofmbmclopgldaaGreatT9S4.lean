/-
A part.
-/
import Derived.Test.YtofmbmclopgldaaGreatT9P7
set_option linter.all false
set_option maxRecDepth 100000
set_option maxHeartbeats 4000000
namespace Go.Proofs.YtofmbmclopgldaaGreat
open Go.Am Tryz
theorem Pr{xs:List Int}(h:0<xs.length)(h0:∀ x∈xs,0≤x):yt 0 xs=if xs.getD 0 0=0 then false else yt (xs.getD 0 0) (xs.drop 1):=by
 have:=yu (b:=0) (xs:=xs) (i:=0) h;rw[List.drop_zero] at this;rw[this];have h1:0≤xs.getD 0 0:=by
  match xs,h with
  |x::r,_=>exact h0 x (by simp)
 by_cases hx:xs.getD 0 0=0
 ·rw[if_pos qJ,if_pos hx]
 ·rw[if_neg qJ,if_neg hx]
theorem Zy{O:Over}(kd n:Int)(s:Value)(xs:List Int)(h:PT aj)(N:Nat)(hN:∀ i B,h.get i=some B→i<N)(hs:aN .u64 h s xs)(hl:xs.length<1000000000000000)(h0:∀ x∈xs,0≤x):
  cE prog O 173 [.agg ⟨[.int .u8 kd,.int .i64 n,s]⟩] h N fun v h' n'=>v = .int .i64 (dO (cq kd n xs))∧∀ i,i<N→h'.get i=h.get i:=by
 have hW:=bQ.of_lt hN;by_cases h3:kd=3∧n=0∧1≤xs.length∧xs.length≤63
 ·obtain⟨rfl,rfl,hx1,hx2⟩:=h3
  rcases hs.BL with ⟨rfl,rfl⟩ | ⟨b,off,sp,cap,L,ro,rfl,rfl,hb⟩ | ⟨b,off,sp,cap,L,ro,rfl,hb,hB,hT⟩
  ·simp at hx1
  ·simp at hx1
  clear hB hs;have hL:=qg hT 0 qJ;have zG:=hN _ _ hb;have aFg: ¬ ((xs.length:Int)<1):=by omega
  have pH: ¬ (63<(xs.length:Int)):=by omega
  have hd:cq 3 0 xs=yt 0 xs:=by
   have e1:(1:Int)≤xs.length:=by omega
   have e2:(xs.length:Int)<64:=by omega
   simp[cq,e1,e2]
  rw[hd,Pr hx1 h0];clear hN h0 hd;refine ay (N:=76) func173 rfl rfl fun z hP hO hro hN hQ=>?_;rw[Nat.add_zero] at hL
  repeat' first|simp(disch:=omega) only[go_sem, *,results173] | (first|apply dI|apply dD|apply dJ|apply dF|apply dG|apply dH|apply dK|apply dL)<;>intro _ | (first|apply ez|apply eA|apply eB|apply eC)<;>intro _ |refine aB (id:=14) (L:=wk) (by kernel_rfl) (by kernel_rfl) ?_
  ·refine⟨by simp[dO, *],fun i hi=>by simp(disch:=omega) only[az]⟩
  ·rename_i hx0;rw[if_neg hx0] at hQ;clear hL hx0;have FH:(h.set N (some (.cells (PT.ofList .leaf 0 [.int .u8 3,.int .i64 0,.slice (some ⟨b,off,sp⟩) xs.length cap]) false))).get b=some (.cells (PT.ofList .leaf 0 L) ro):=by rw[az qJ];exact hb
   have WT:∀ i,i<N→(h.set N (some (.cells (PT.ofList .leaf 0 [.int .u8 3,.int .i64 0,.slice (some ⟨b,off,sp⟩) xs.length cap]) false))).get i=h.get i:=fun i hi=>by rw[az qJ]
   generalize hh2:h.set N _=h2 at*;have e2:=xK hh2;clear hh2;refine a_ (fun t m h' n'=>∃ i:Nat,1≤i∧i≤xs.length∧t=xs.length+1-i∧yt (xs.getD 0 0) (xs.drop 1)=yt (xs.getD (i-1) 0) (xs.drop i)∧m.n=76∧m.fF=[]∧m.get 1 = .pointer (some ⟨N,0,none⟩)∧m.get 3 = .int .i64 i∧h2=h') xs.length ?_ ?_
   ·refine⟨1,by omega,by omega,by omega,rfl,?_⟩;simp(disch:=omega) only[go_sem, *]
    all_goals simp
   ·rintro t m h' n' ih ⟨i,hi1,hi2,rfl,uq,m1,m2,m3,m4,e⟩;subst e;by_cases hlt:i<xs.length
    ·obtain⟨j,hj⟩:∃ j,j=i-1:=⟨_,rfl⟩;have hL1:=qg hT i hlt;have hL2:=qg hT j qJ;have hji:(i:Int)-1=j:=by omega
     have IY:(i:Int)<xs.length:=by omega
     rw[yu hlt,←hj] at uq;clear hT hj
     repeat' first|simp(disch:=omega) only[go_sem, *,results173] | (first|apply dI|apply dD|apply dJ|apply dF|apply dG|apply dH|apply dK|apply dL)<;>intro _ | (first|apply ez|apply eA|apply eB|apply eC)<;>intro _ |refine aB (id:=14) (L:=wk) (by kernel_rfl) (by kernel_rfl) ?_
     ·exact⟨by simp[dO],WT⟩
     ·rename_i hle;rw[if_neg hle] at uq;refine ih (xs.length+1-(i+1)) _ _ _ qJ ⟨i+1,by omega,by omega,by omega,by simpa using uq,?_⟩;clear ih;simp(disch:=omega) only[go_sem, *]
      all_goals simp
    ·have IY: ¬ (i:Int)<xs.length:=by omega
     have oK:xs.drop i=[]:=List.drop_eq_nil_of_le qJ;rw[oK,yt] at uq;clear hT oK
     repeat' first|simp(disch:=omega) only[go_sem, *,results173] | (first|apply dI|apply dD|apply dJ|apply dF|apply dG|apply dH|apply dK|apply dL)<;>intro _ | (first|apply ez|apply eA|apply eB|apply eC)<;>intro _ |refine aB (id:=14) (L:=wk) (by kernel_rfl) (by kernel_rfl) ?_
     exact⟨by simp[dO],WT⟩
 ·obtain⟨a,cap,rfl,hA⟩:=hs.len;clear hs hA;refine ay (N:=76) func173 rfl rfl fun z hP hO hro hN hQ=>?_
  repeat' first|simp(disch:=omega) only[go_sem, *,results173] | (first|apply dI|apply dD|apply dJ|apply dF|apply dG|apply dH|apply dK|apply dL)<;>intro _ | (first|apply ez|apply eA|apply eB|apply eC)<;>intro _ |refine aB (id:=14) (L:=wk) (by kernel_rfl) (by kernel_rfl) ?_
  all_goals first | (exfalso;omega) |skip
  all_goals refine⟨?_,fun i hi=>by simp(disch:=omega) only[az]⟩
  all_goals simp(disch:=omega) only[go_sem, *,dO,cq,Bool.false_eq_true]
  all_goals rw[if_neg (fun hh=>by simp only[Bool.and_eq_true,decide_eq_true_eq] at hh;omega)]
def fR(xs:List Int):Bool:=decide (xs.length<1000000000000000)&&xs.all fun x=>decide (0≤x)
theorem uu{xs:List Int}(hl:xs.length<1000000000000000)(h0:∀ x∈xs,0≤x):fR xs=true:=by
 simp[fR,hl];exact h0
theorem ql{xs:List Int}(h:fR xs=true):xs.length<1000000000000000∧∀ x∈xs,0≤x:=by
 simp[fR] at h;exact h
def kf:List Value→Option (AP Value)
 | [.agg ⟨[.int .u8 kind,.int .i64 n,s]⟩]=>some ((eM .u64 s).bind fun xs=>cond (fR xs) (.pure (.int .i64 (dO (cq kind n xs)))) (.fail ""))
 | _=>none
theorem Uu:bG prog 173 kf:=by
 refine ct (aV .nil) bU ?_;intro args m hm;unfold kf at hm;split at hm
 ·rename_i kind n s;simp only[Option.some.injEq] at hm;subst hm;refine⟨fun h v=>∃ xs,aN .u64 h s xs∧fR xs=true∧v = .int .i64 (dO (cq kind n xs)),fun h n v s' hR e=>?_,fun h N v hlt hv=>?_⟩
  ·obtain⟨xs,hx,e⟩:=jf hR e;obtain⟨hl,e⟩:=ec e;obtain⟨h1,rfl⟩:=run_pure e;exact⟨h1,.int _ _,xs,hx,hl,rfl⟩
  ·obtain⟨xs,hx,hl,rfl⟩:=hv;exact Zy kind n s xs h N hlt hx (ql hl).1 (ql hl).2
 ·simp at hm
abbrev Or3:Over:=gG [(173,kf)]
theorem Pt:cU prog Or3:=aV (.cons Uu .nil)
def fk:List Value→Option (AP Value)
 | [.agg ⟨[.int .u8 kd,.int .i64 dn,s]⟩]=>some ((eM .u64 s).bind fun xs=>cond (fR xs) (.pure (if cq kd dn xs then .tuple ⟨[.int .i64 (aC kd dn xs),.int .i64 0]⟩ else .tuple ⟨[.int .i64 0,.int .i64 2]⟩)) (.fail ""))
 | _=>none
theorem yx:bG prog 100 fk:=by
 refine ct Pt bU ?_;intro args m hm;unfold fk at hm;split at hm
 ·rename_i kd dn s;simp only[Option.some.injEq] at hm;subst hm;refine⟨fun h v=>∃ xs,aN .u64 h s xs∧fR xs=true∧v=if cq kd dn xs then .tuple ⟨[.int .i64 (aC kd dn xs),.int .i64 0]⟩ else .tuple ⟨[.int .i64 0,.int .i64 2]⟩,fun h n v s' hR e=>?_,fun h N v hlt hv=>?_⟩
  ·obtain⟨xs,hx,e⟩:=jf hR e;obtain⟨hl,e⟩:=ec e;obtain⟨h1,rfl⟩:=run_pure e;refine⟨h1,?_,xs,hx,hl,rfl⟩;split
   ·exact .tuple _ (by simp;exact⟨.int _ _,.int _ _⟩)
   ·exact .tuple _ (by simp;exact⟨.int _ _,.int _ _⟩)
  ·obtain⟨xs,hx,hl,rfl⟩:=hv;have zR:=(ql hl).1;have hrd:=fun h' hk z f d ops r K m n=>@gI _ _ h' _ _ hx z f d ops r K m n hk;obtain⟨a,cap,rfl,-⟩:=hx.len;refine ay (N:=22) func100 rfl rfl ?_;intro z hP hO hro hN hQ
   repeat' first|simp(disch:=try exact yj) only[go_sem, *,results100,kf,mK] | (first|apply dI|apply dD|apply dJ|apply dF|apply dG|apply dH|apply dK|apply dL)<;>intro _ | (first|apply ez|apply eA|apply eB|apply eC)<;>intro _ |refine aB (by cbv) (by first|rfl |cbv) ?_
   all_goals refine⟨?_,fun i hi=>by simp(disch:=omega) only[az]⟩
   all_goals (try simp only[Bool.not_eq_false] at *)
   all_goals simp(disch:=try exact yj) only[go_sem, *,dO,aC,Bool.false_eq_true]
   all_goals (rename_i hk hd;subst hk;rw[if_pos hd])
 ·simp at hm
theorem uv{th sl en bu kd dn t0 t1 t2 t3 t4 t5 lo tr ba:Int}{xs:List Int}:gq th sl en bu kd dn t0 t1 t2 t3 t4 t5 lo tr ba xs=true↔
  (0≤t0∧0≤t1∧0≤t2∧0≤t3∧0≤t4∧0≤t5∧t0+t1+t2+t3+t4+t5≤1024∧1≤th∧th≤64∧1≤sl∧sl≤64∧1≤en∧en≤3∧(en=3→1≤bu∧bu≤16)∧(en≠3→bu=0)∧1≤lo∧lo≤16∧1≤tr∧tr≤255∧0≤ba∧ba≤64)∧cq kd dn xs=true:=by
 simp only[gq,Bool.and_eq_true,Bool.not_eq_true',Bool.or_eq_false_iff,decide_eq_true_eq,decide_eq_false_iff_not];by_cases h3:en=3
 ·simp only[h3,if_true,Bool.and_eq_true,decide_eq_true_eq,forall_const,ne_eq,not_true_eq_false,false_implies,true_and,and_true,Std.le_refl,Int.reduceLE,implies_true];constructor
  ·rintro ⟨⟨⟨⟨⟨⟨⟨⟨⟨⟨⟨⟨⟨⟨a0,a1⟩,a2⟩,a3⟩,a4⟩,a5⟩,a6⟩,a7⟩,a8⟩,a9⟩,vJ⟩,wu⟩,zu⟩,zH⟩,zI⟩;exact⟨by omega,wu⟩
  ·rintro ⟨hh,hd⟩;refine⟨⟨⟨⟨⟨⟨⟨⟨⟨⟨⟨⟨⟨⟨?_,?_⟩,?_⟩,?_⟩,?_⟩,?_⟩,?_⟩,?_⟩,?_⟩,?_⟩,?_⟩,hd⟩,?_⟩,?_⟩,?_⟩<;>omega
 ·simp only[if_neg h3,decide_eq_true_eq];constructor
  ·rintro ⟨⟨⟨⟨⟨⟨⟨⟨⟨⟨⟨⟨⟨⟨a0,a1⟩,a2⟩,a3⟩,a4⟩,a5⟩,a6⟩,a7⟩,a8⟩,a9⟩,vJ⟩,wu⟩,zu⟩,zH⟩,zI⟩;exact⟨by omega,wu⟩
  ·rintro ⟨hh,hd⟩;refine⟨⟨⟨⟨⟨⟨⟨⟨⟨⟨⟨⟨⟨⟨?_,?_⟩,?_⟩,?_⟩,?_⟩,?_⟩,?_⟩,?_⟩,?_⟩,?_⟩,?_⟩,hd⟩,?_⟩,?_⟩,?_⟩<;>omega
theorem AG{b:Bool}(h: ¬ b=true):dO b=2:=by simp[dO,h]
theorem Hr{b:Bool}(h:b=true):dO b=0:=by simp[dO,h]
theorem Pu(th sl en bu kd dn t0 t1 t2 t3 t4 t5 lo tr ba:Int)(s:Value)(xs:List Int)(h:PT aj)(N:Nat)(hN:∀ i B,h.get i=some B→i<N)(hs:aN .u64 h s xs)(hl:fR xs=true):
  cE prog Or3 209 [.agg ⟨[.int .i64 th,.int .i64 sl,.int .u8 en,.int .i64 bu,.int .u8 kd,.int .i64 dn,s,.int .i64 t0,.int .i64 t1,.int .i64 t2,.int .i64 t3,.int .i64 t4,.int .i64 t5,.int .i64 lo,.int .i64 tr,.int .i64 ba]⟩] h N
   fun v h' n'=>v = .int .i64 (dO (gq th sl en bu kd dn t0 t1 t2 t3 t4 t5 lo tr ba xs))∧∀ i,i<N→h'.get i=h.get i:=by
 obtain⟨a,cap,rfl,-⟩:=hs.len;have hrd:=fun h' hk z f d ops r K m n=>@gI _ _ h' _ _ hs z f d ops r K m n hk;refine ay (N:=112) func209 rfl rfl ?_;intro z hP hO hro hN hQ
 repeat' first|simp(disch:=try exact yj) only[go_sem, *,results209,kf,eR,mK] | (first|apply dI|apply dD|apply dJ|apply dF|apply dG|apply dH|apply dK|apply dL)<;>intro _ | (first|apply ez|apply eA|apply eB|apply eC)<;>intro _ |refine aB (by cbv) (by first|rfl |cbv) ?_
 all_goals refine⟨?_,fun i hi=>by simp(disch:=omega) only[az]⟩
 all_goals first
  | (rw[AG];rw[uv];intro hh;omega)
  | (rw[AG];rw[uv];intro hh;simp_all;done)
  | (rw[Hr];rw[uv];refine⟨by omega,by simp_all⟩)
def mN:List Value→Option (AP Value)
 | [.agg ⟨[.int .i64 th,.int .i64 sl,.int .u8 en,.int .i64 bu,.int .u8 kd,.int .i64 dn,s,.int .i64 t0,.int .i64 t1,.int .i64 t2,.int .i64 t3,.int .i64 t4,.int .i64 t5,.int .i64 lo,.int .i64 tr,.int .i64 ba]⟩]=>
  some ((eM .u64 s).bind fun xs=>cond (fR xs) (.pure (.int .i64 (dO (gq th sl en bu kd dn t0 t1 t2 t3 t4 t5 lo tr ba xs)))) (.fail ""))
 | _=>none
theorem La:bG prog 209 mN:=by
 refine ct Pt bU ?_;intro args m hm;unfold mN at hm;split at hm
 ·rename_i th sl en bu kd dn s t0 t1 t2 t3 t4 t5 lo tr ba;simp only[Option.some.injEq] at hm;subst hm;refine⟨fun h v=>∃ xs,aN .u64 h s xs∧fR xs=true∧v = .int .i64 (dO (gq th sl en bu kd dn t0 t1 t2 t3 t4 t5 lo tr ba xs)),fun h n v s' hR e=>?_,fun h N v hlt hv=>?_⟩
  ·obtain⟨xs,hx,e⟩:=jf hR e;obtain⟨hl,e⟩:=ec e;obtain⟨h1,rfl⟩:=run_pure e;exact⟨h1,.int _ _,xs,hx,hl,rfl⟩
  ·obtain⟨xs,hx,hl,rfl⟩:=hv;exact Pu th sl en bu kd dn t0 t1 t2 t3 t4 t5 lo tr ba s xs h N hlt hx hl
 ·simp at hm
def iQ(sz:Nat)(h:PT aj)(s:Value)(L:List Value)(k:Nat):Prop:=
 (s = .slice none 0 0∧L=[]∧k=0)∨∃ b,s = .slice (some ⟨b,0,none⟩) k (aA+sz)∧h.get b=some (.cells (PT.ofList .leaf 0 L) false)∧L.length=k*sz
def WU(x:Int×Int×Int):List Value:=[.int .u8 x.1,.int .i64 x.2.1,.int .i64 x.2.2]
def gd(W:List (Int×Int×Int)):List Value:=W.flatMap WU
theorem jP:∀ W:List (Int×Int×Int),(gd W).length=W.length*3
 | []=>rfl
 |x::W=>by
  have:=jP W;unfold gd at*;rw[List.flatMap_cons,List.length_append,this];simp only[WU,List.length_cons,List.length_nil];omega
theorem ve(W V:List (Int×Int×Int)):gd (W++V)=gd W++gd V:=List.flatMap_append
def iD(kind first:Int)(p n:Nat):List (Int×Int×Int):=(List.range n).map fun i=>(kind,first+((i/p:Nat):Int),((i%p:Nat):Int))
theorem Pv{kind first:Int}{p n:Nat}:iD kind first p (n+1)=iD kind first p n++[(kind,first+((n/p:Nat):Int),((n%p:Nat):Int))]:=by
 simp[iD,List.range_succ]
theorem aH{kind first:Int}{p n:Nat}:(iD kind first p n).length=n:=by simp[iD]
theorem group{O:Over}(lb:Nat)(S:List Value)(wv:Value)(L:List Value)(k n p:Nat)(kind first:Int)(h:PT aj)(N:Nat)(hW:bQ h N)(hb:h.get lb=some (.cells (PT.ofList .leaf 0 S) false))(hS:S.length=28)(qm:S[27]? = some wv)
  (hg:iQ 3 h wv L k) (hne:∀ b k c,wv = .slice (some ⟨b,0,none⟩) k c→b≠lb) (hk:k+n≤1000000) (hp:1≤p) (hp2:p≤1000000) (hf:0≤first) (WV:first≤1000000):
  cE prog O 210 [.pointer (some ⟨lb,0,none⟩),.int .i64 n,.int .u8 kind,.int .i64 first,.int .i64 p] h N fun v h' n'=>v = .int .i64 k∧
   ∃ wz,h'.get lb=some (.cells (PT.ofList .leaf 0 (S.set 27 wz)) false)∧iQ 3 h' wz (L++gd (iD kind first p n)) (k+n)∧(wz=wv∧n=0∨∃ b,wz = .slice (some ⟨b,0,none⟩) (k+n) (aA+3)∧N≤b∧0<n)∧
    ∀ i,i<N→i≠lb→(∀ k c,wv ≠ .slice (some ⟨i,0,none⟩) k c)→h'.get i=h.get i:=by
 have aqz:=hW.lt hb;have hlen:(.slice none 0 0:Value) = .slice none 0 0:=rfl;refine ay (N:=43) func210 rfl rfl fun z hP hO hro hN hQ=>?_;have hx:∃ a c,wv = .slice a k c:=by
  rcases hg with ⟨rfl,rfl,rfl⟩ | ⟨b,rfl,_,_⟩
  ·exact⟨_,_,rfl⟩
  ·exact⟨_,_,rfl⟩
 obtain⟨a,c,hwv⟩:=hx;rw[hwv] at qm
 repeat' first|simp(disch:=omega) only[go_sem, *,results210] | (first|apply dI|apply dD|apply dJ|apply dF|apply dG|apply dH|apply dK|apply dL)<;>intro _ | (first|apply ez|apply eA|apply eB|apply eC)<;>intro _ |refine aB (id:=5) (L:=Cd) (by kernel_rfl) (by kernel_rfl) ?_
 rw[←hwv] at qm;clear hwv;have j8:S.set 27 wv=S:=by
  apply List.ext_getElem?;intro i;rw[List.getElem?_set];split
  ·rename_i e;subst e;rw[if_pos qJ];exact qm.symm
  ·rfl
 refine a_ (fun t m h' n'=>∃ (j:Nat) (wz:Value),j≤n∧t=n-j∧m.n=43∧m.fF=[]∧m.get 0 = .pointer (some ⟨lb,0,none⟩)∧m.get 1 = .int .i64 n∧m.get 2 = .int .u8 kind∧m.get 3 = .int .i64 first∧m.get 4 = .int .i64 p∧m.get 11 = .int .i64 k∧m.get 12 = .int .i64 j∧
  bQ h' n'∧N≤n'∧h'.get lb=some (.cells (PT.ofList .leaf 0 (S.set 27 wz)) false)∧iQ 3 h' wz (L++gd (iD kind first p j)) (k+j)∧(wz=wv∧j=0∨∃ b,wz = .slice (some ⟨b,0,none⟩) (k+j) (aA+3)∧N≤b∧0<j)∧(∀ b k c,wz = .slice (some ⟨b,0,none⟩) k c→b≠lb)∧
   ∀ i,i<N→i≠lb→(∀ k c,wv ≠ .slice (some ⟨i,0,none⟩) k c)→h'.get i=h.get i) n ?_ ?_
 ·refine⟨0,wv,by omega,by omega,?_⟩;rw[j8];simp(disch:=omega) only[go_sem, *];have e0:gd (iD kind first p 0)=[]:=rfl;rw[e0,List.append_nil];exact⟨Nat.le_refl _,hg,fun b k c e=>hne b k c e,fun _ _ _ _=>trivial⟩
 ·rintro t m h' n' ih ⟨j,wz,hj,rfl,m1,m2,m3,m4,m5,m6,m7,m8,m9,q1,q2,q3,q4,q5,q7,q6⟩;by_cases hjn:j<n
  ·have hji:(j:Int)<n:=by omega
   have hpp: ¬ (p:Int)=0:=by omega
   have hd1:j/p≤j:=Nat.div_le_self _ _;have hd2:j%p<p:=Nat.mod_lt _ qJ;have hq:(j:Int).tdiv p=((j/p:Nat):Int):=rfl;have hr:(j:Int).tmod p=((j%p:Nat):Int):=rfl;have hlb:=q1.lt q3;have vH:(S.set 27 wz).length=28:=by simpa using hS
   have aFh:(S.set 27 wz)[27]? = some wz:=by rw[List.getElem?_set,if_pos rfl,if_pos qJ]
   have hnew:∀ wn,S.set 27 wn=(S.set 27 wz).set 27 wn:=fun wn=>by rw[List.set_set]
   have hrow:L++gd (iD kind first p (j+1))=(L++gd (iD kind first p j))++[.int .u8 kind,.int .i64 (first+((j/p:Nat):Int)),.int .i64 ((j%p:Nat):Int)]:=by
    rw[Pv,ve,←List.append_assoc];rfl
   generalize hu:j/p=u at*;generalize hv:j%p=v at*;generalize hS3:S.set 27 wz=S3 at*;generalize hX:L++gd (iD kind first p j)=X at*;generalize hK:k+j=K at*
   rcases q4 with ⟨rfl,rfl,RT⟩ | ⟨b,rfl,zn,mT⟩
   ·clear hQ q7
    repeat' first|simp(disch:=omega) only[go_sem, *,results210] | (first|apply dI|apply dD|apply dJ|apply dF|apply dG|apply dH|apply dK|apply dL)<;>intro _ | (first|apply ez|apply eA|apply eB|apply eC)<;>intro _ |refine aB (id:=5) (L:=Cd) (by kernel_rfl) (by kernel_rfl) ?_
    refine ih (n-(j+1)) _ _ _ qJ ⟨j+1,.slice (some ⟨n'+1,0,none⟩) 1 (aA+3),by omega,by omega,?_⟩;clear ih;rw[hnew,hrow,show k+(j+1)=1 by omega];clear hnew hrow;simp(disch:=omega) only[go_sem, *];refine⟨by simp,?_,by omega,.inr ⟨n'+1,rfl,?_,by simp⟩,⟨n'+1,rfl,by omega,by omega⟩,fun b k c e=>by cases e;omega,fun i h1 h2 h3=>?_⟩
    ·(repeat refine bQ.set' qJ ?_);first|assumption|exact bQ.mono (by assumption) qJ
    ·simp(disch:=omega) only[go_sem]
    ·simp(disch:=omega) only[az];exact q6 i h1 h2 h3
   ·have VQ:=q1.lt zn;have aFi:=q7 _ _ _ rfl;clear q7;have zJ:X.take (K*3)=X:=by rw[←mT];exact List.take_length
    have hbq:(K*3).beq (K*3)=true:=Nat.beq_refl _;have Lb:(K+1).ble 1048576=true:=Nat.ble_eq_true_of_le qJ;clear hQ
    repeat' first|simp(disch:=omega) only[go_sem, *,results210] | (first|apply dI|apply dD|apply dJ|apply dF|apply dG|apply dH|apply dK|apply dL)<;>intro _ | (first|apply ez|apply eA|apply eB|apply eC)<;>intro _ |refine aB (id:=5) (L:=Cd) (by kernel_rfl) (by kernel_rfl) ?_
    refine ih (n-(j+1)) _ _ _ qJ ⟨j+1,.slice (some ⟨n'+1,0,none⟩) (K+1) (aA+3),by omega,by omega,?_⟩;clear ih;rw[hnew,hrow,show k+(j+1)=K+1 by omega];clear hnew hrow;simp(disch:=omega) only[go_sem, *];refine⟨by simp,?_,by omega,.inr ⟨n'+1,rfl,?_,by simp[mT];omega⟩,⟨n'+1,rfl,by omega,by omega⟩,fun b k c e=>by cases e;omega,fun i h1 h2 h3=>?_⟩
    ·(repeat refine bQ.set' qJ ?_);first|assumption|exact bQ.mono (by assumption) qJ
    ·simp(disch:=omega) only[go_sem]
    ·have hib:i≠b:=by
      rcases q5 with ⟨e,_⟩ | ⟨b2,e,mT,_⟩
      ·intro e2;subst e2;exact h3 _ _ e.symm
      ·cases e;omega
     simp(disch:=omega) only[az];exact q6 i h1 h2 h3
  ·obtain rfl:j=n:=by omega
   clear ih;have IY: ¬ (j:Int)<j:=by omega
   repeat' first|simp(disch:=omega) only[go_sem, *,results210] | (first|apply dI|apply dD|apply dJ|apply dF|apply dG|apply dH|apply dK|apply dL)<;>intro _ | (first|apply ez|apply eA|apply eB|apply eC)<;>intro _ |refine aB (id:=5) (L:=Cd) (by kernel_rfl) (by kernel_rfl) ?_
   exact⟨wz,rfl,q4,q5,q6⟩
noncomputable def yy:List Value→Option (AP Value)
 | [.pointer (some ⟨lb,0,none⟩),.int .i64 n,.int .u8 kind,.int .i64 first,.int .i64 p]=>some <|
  AP.row lb fun (S:List Value) ro=>cond (!ro&&Nat.beq S.length 28&&decide (0≤n)&&decide (1≤p)&&decide (p≤1000000)&&decide (0≤first)&&decide (first≤1000000)) (match (S[27]? : Option Value) with
   |some (.slice none 0 0)=>cond (decide (n≤1000000)) (cond (decide (n=0)) (.pure (.int .i64 0)) (.newRow (gd (iD kind first p.toNat n.toNat)) fun g => .setRow lb (S.set 27 (.slice (some ⟨g,0,none⟩) n.toNat (aA+3))) (.pure (.int .i64 0)))) (.fail "")
   |some (.slice (some ⟨w,0,none⟩) k cap)=>AP.row w fun (L:List Value) wro=>
    cond (!wro&&Nat.beq cap (aA+3)&&Nat.beq L.length (k*3)&&decide ((k:Int)+n≤1000000) && !Nat.beq w lb) (cond (decide (n=0)) (.pure (.int .i64 k)) (.kill w (.newRow (L++gd (iD kind first p.toNat n.toNat)) fun g => .setRow lb (S.set 27 (.slice (some ⟨g,0,none⟩) (k+n.toNat) (aA+3))) (.pure (.int .i64 k))))) (.fail "")
   | _ => .fail "") (.fail "")
 | _=>none
theorem yz{I:Nat→Nat→Prop}{Old:Value→Prop}:∀ W:List (Int×Int×Int),cC I Old (gd W) (gd W)
 | [] => .nil
 |x::W => .cons _ _ _ _ (.int _ _) (.cons _ _ _ _ (.int _ _) (.cons _ _ _ _ (.int _ _) (yz W)))
theorem yA{S:List Value}{i:Nat}{v:Value}(h:S[i]? = some v):S.set i v=S:=by
 apply List.ext_getElem?;intro j;rw[List.getElem?_set];split
 ·rename_i e;subst e;rw[if_pos (List.getElem?_eq_some_iff.1 h).1];exact h.symm
 ·rfl
theorem Zz:bG prog 210 yy:=by
 refine xE (aV .nil) bU ?_;intro args m hm h n N Old eS v h1 n1 hr hold hid hN;unfold yy at hm;split at hm
 ·rename_i lb nn kind first p
  simp only[Option.some.injEq] at hm;subst hm;replace hr:=nJ hr;obtain⟨S,ro,hS,hr⟩:=hr;replace hr:=ec hr;obtain⟨hc,hr⟩:=hr;simp only[Bool.and_eq_true,Bool.not_eq_true',decide_eq_true_eq] at hc;obtain⟨⟨⟨⟨⟨⟨rfl,Uv⟩,hn0⟩,hp1⟩,hp2⟩,hf1⟩,WV⟩:=hc;have Uv:=Nat.eq_of_beq_eq_true Uv;obtain⟨nn,rfl⟩:=Int.eq_ofNat_of_zero_le hn0;obtain⟨p,rfl⟩:=Int.eq_ofNat_of_zero_le (show 0≤p by omega);simp only[Int.toNat_natCast] at hr;have hlt:∀ i B,h.get i=some B→i<N∧ ¬(n≤i∧i<n1):=fun i B e=>hid i (hold.id i B e);have hlb:=hlt _ _ hS;have hW:bQ h N:=bQ.of_lt fun i B e=>(hlt i B e).1;split at hr
  ·rename_i qm;replace hr:=ec hr;obtain⟨hk,hr⟩:=hr;have hk:=of_decide_eq_true hk;have hgr:=group (O:=gG []) lb S _ [] 0 nn p kind first h N hW hS Uv qm (.inl ⟨rfl,rfl,rfl⟩) (fun b k c e=>by cases e) qJ qJ qJ hf1 WV
   have j8:=yA qm;by_cases hz:(nn:Int)=0
   ·obtain rfl:nn=0:=by omega
    rw[decide_eq_true hz,cond_true] at hr;obtain⟨hs,rfl⟩:=run_pure hr;clear hr;have e1:h1=_:=congrArg HS.heap hs;have e2:n1=_:=congrArg HS.next hs;simp only[S0] at e1 e2;subst e1 e2;clear hs;refine hgr.mono ?_;rintro v2 h2 n2 ⟨rfl,wz,q1,q2,q3,q4⟩
    rcases q3 with ⟨rfl,_⟩ | ⟨b,rfl,hb,aqB⟩
    ·refine⟨fun i=>i,fun i a b=>by omega,fun i j a b=>by omega,.int _ _,fun i B e => .inl ⟨e,?_⟩⟩;rw[j8] at q1;by_cases hi:i=lb
     ·subst hi;rw[hS] at e;rw[q1];exact e
     ·rw[q4 i (hlt i B e).1 hi (fun k c e=>by cases e)];exact e
    ·omega
   ·rw[decide_eq_false hz,cond_false] at hr;replace hr:=run_set (sK hr);obtain⟨hs,rfl⟩:=run_pure hr;clear hr;have e1:h1=_:=congrArg HS.heap hs;have e2:n1=_:=congrArg HS.next hs;simp only[S0] at e1 e2;subst e1 e2;clear hs;refine hgr.mono ?_;rintro v2 h2 n2 ⟨rfl,wz,q1,q2,q3,q4⟩
    rcases q3 with ⟨_,rfl⟩ | ⟨b,rfl,hb,_⟩
    ·simp at hz
    rcases q2 with ⟨q2,_⟩ | ⟨b',e,q2,q2'⟩
    ·cases q2
    cases e;refine⟨fun _=>b,fun i _ _=>hb,fun i j q1 q2 q3 q4 _=>by omega,.int _ _,fun i B e=>?_⟩;have Zs:cC (Ij eS n (n+1) fun _=>b) Old S S:=cC.refl _ fun u hu=>by
     obtain⟨j,hj⟩:=List.mem_iff_getElem?.1 hu;exact .old _ (hold.cells lb _ _ j u hS (by rw[PT.aQ];exact hj))
    have hnew:Ij eS n (n+1) (fun _=>b) n b := .inr ⟨Nat.le_refl _,Nat.lt_succ_self _,rfl⟩;rw[PT.bC] at e;split at e
    ·rename_i hi;subst hi;obtain rfl:=Option.some.inj e;refine .inr ⟨_,?_,.cells _ _ _ (Zs.set 27 (.slice n 0 nn (aA+3) b hnew))⟩;rw[uc qJ,q1,Nat.zero_add]
    ·rename_i hi;rw[PT.bC] at e;split at e
     ·rename_i hi;subst hi;obtain rfl:=Option.some.inj e;refine .inr ⟨_,?_,.cells _ _ _ (yz _)⟩;rw[xO qJ,q2,List.nil_append]
     ·have:=(hlt i B e).1;exact .inl ⟨e,by rw[q4 i this hi (fun k c e=>by cases e)];exact e⟩
  ·rename_i w k cap qm;replace hr:=nJ hr;obtain⟨L,wro,hL,hr⟩:=hr;replace hr:=ec hr;obtain⟨hc,hr⟩:=hr;simp only[Bool.and_eq_true,Bool.not_eq_true',decide_eq_true_eq] at hc;obtain⟨⟨⟨⟨rfl,hcap⟩,hLk⟩,hkn⟩,rP⟩:=hc;obtain rfl:=Nat.eq_of_beq_eq_true hcap;have hLk:=Nat.eq_of_beq_eq_true hLk;have rP:w≠lb:=fun e=>by rw[e,oU] at rP;simp at rP
   have hw:=hlt _ _ hL;have hgr:=group (O:=gG []) lb S _ L k nn p kind first h N hW hS Uv qm (.inr ⟨w,rfl,hL,hLk⟩) (fun b k c e=>by cases e;exact rP) qJ qJ qJ hf1 WV
   have j8:=yA qm;by_cases hz:(nn:Int)=0
   ·obtain rfl:nn=0:=by omega
    rw[decide_eq_true hz,cond_true] at hr;obtain⟨hs,rfl⟩:=run_pure hr;clear hr;have e1:h1=_:=congrArg HS.heap hs;have e2:n1=_:=congrArg HS.next hs;simp only[S0] at e1 e2;subst e1 e2;clear hs;refine hgr.mono ?_;rintro v2 h2 n2 ⟨rfl,wz,q1,q2,q3,q4⟩
    rcases q3 with ⟨rfl,_⟩ | ⟨b,rfl,hb,aqB⟩
    ·refine⟨fun i=>i,fun i a b=>by omega,fun i j a b=>by omega,.int _ _,fun i B e => .inl ⟨e,?_⟩⟩;rw[j8] at q1
     rcases q2 with ⟨q2,_⟩ | ⟨b',e',q2,q2'⟩
     ·cases q2
     cases e';by_cases hi:i=lb
     ·subst hi;rw[hS] at e;rw[q1];exact e
     ·by_cases hi2:i=w
      ·subst hi2;rw[hL] at e;rw[q2,show gd (iD kind first p 0)=[] from rfl,List.append_nil];exact e
      ·rw[q4 i (hlt i B e).1 hi (fun k c e=>by cases e;exact hi2 rfl)];exact e
    ·omega
   ·rw[decide_eq_false hz,cond_false] at hr;replace hr:=run_set (sK (DX hr));obtain⟨hs,rfl⟩:=run_pure hr;clear hr;have e1:h1=_:=congrArg HS.heap hs;have e2:n1=_:=congrArg HS.next hs;simp only[S0] at e1 e2;subst e1 e2;clear hs;refine hgr.mono ?_;rintro v2 h2 n2 ⟨rfl,wz,q1,q2,q3,q4⟩
    rcases q3 with ⟨_,rfl⟩ | ⟨b,rfl,hb,_⟩
    ·simp at hz
    rcases q2 with ⟨q2,_⟩ | ⟨b',e,q2,q2'⟩
    ·cases q2
    cases e;refine⟨fun _=>b,fun i _ _=>hb,fun i j q1 q2 q3 q4 _=>by omega,.int _ _,fun i B e=>?_⟩;have Zs:cC (Ij eS n (n+1) fun _=>b) Old S S:=cC.refl _ fun u hu=>by
     obtain⟨j,hj⟩:=List.mem_iff_getElem?.1 hu;exact .old _ (hold.cells lb _ _ j u hS (by rw[PT.aQ];exact hj))
    have hLr:cC (Ij eS n (n+1) fun _=>b) Old L L:=cC.refl _ fun u hu=>by
     obtain⟨j,hj⟩:=List.mem_iff_getElem?.1 hu;exact .old _ (hold.cells w _ _ j u hL (by rw[PT.aQ];exact hj))
    have hnew:Ij eS n (n+1) (fun _=>b) n b := .inr ⟨Nat.le_refl _,Nat.lt_succ_self _,rfl⟩;rw[PT.bC] at e;split at e
    ·rename_i hi;subst hi;obtain rfl:=Option.some.inj e;refine .inr ⟨_,?_,.cells _ _ _ (Zs.set 27 (.slice n 0 (k+nn) (aA+3) b hnew))⟩;rw[uc qJ,q1]
    ·rename_i hi;rw[PT.bC] at e;split at e
     ·rename_i hi;subst hi;obtain rfl:=Option.some.inj e;refine .inr ⟨_,?_,.cells _ _ _ (hLr.append (yz _))⟩;rw[xO qJ,q2]
     ·rw[PT.bC] at e;split at e
      ·simp at e
      rename_i hi2;have:=(hlt i B e).1;exact .inl ⟨e,by rw[q4 i this hi (fun k c e=>by cases e;exact hi2 rfl)];exact e⟩
  ·exact(xP hr).elim
 ·simp at hm
end Go.Proofs.YtofmbmclopgldaaGreat
