/-
A part.
-/
import Derived.Test.YtofmbmclopgldaaGreatBI
set_option linter.all false
set_option maxHeartbeats 4000000
namespace Go.Proofs.YtofmbmclopgldaaGreat
open Go.Am Go.Proofs.Tryz
structure Nz(n:Nat)(d:Rl→Nat)(C:Rl→Option aj)(X Y:List Rl)(d':Rl→Nat)(C':Rl→Option aj)(h':PT aj)(n':Nat):Prop where
 le:n≤n'
 st:St h' n' d' C'
 fz:∀ h1 n1,n1≤n→Fz h1 n1 d C→Fz h1 n1 d' C'
 cc:∀ r,r∉X→C' r=C r
 dd:∀ r,r∉Y→d' r=d r
section
variable {n n1 n2:Nat} {d d1 d2:Rl→Nat} {C C1 C2:Rl→Option aj} {X Y X' Y':List Rl} {h h1 h2:PT aj}
theorem Nz.refl(S:St h n d C):Nz n d C X Y d C h n:=⟨Nat.le_refl _,S,fun _ _ _ F=>F,fun _ _=>rfl,fun _ _=>rfl⟩
theorem Nz.trans(a:Nz n d C X Y d1 C1 h1 n1)(b:Nz n1 d1 C1 X Y d2 C2 h2 n2):Nz n d C X Y d2 C2 h2 n2:=
 ⟨Nat.le_trans a.le b.le,b.st,fun h n h1 F=>b.fz h n (Nat.le_trans h1 a.le) (a.fz h n h1 F),fun r h=>(b.cc r h).trans (a.cc r h),fun r h=>(b.dd r h).trans (a.dd r h)⟩
theorem Nz.sub(a:Nz n d C X Y d1 C1 h1 n1)(hX:∀ x∈X,x∈X')(hY:∀ x∈Y,x∈Y'):Nz n d C X' Y' d1 C1 h1 n1:=
 ⟨a.le,a.st,a.fz,fun r hx=>a.cc r fun q=>hx (hX r q),fun r hx=>a.dd r fun q=>hx (hY r q)⟩
theorem Nz.app(a:Nz n d C X Y d1 C1 h1 n1)(b:Nz n1 d1 C1 X' Y' d2 C2 h2 n2):Nz n d C (X++X') (Y++Y') d2 C2 h2 n2:=
 (a.sub (fun x h=>List.mem_append_left _ h) fun x h=>List.mem_append_left _ h).trans (b.sub (fun x h=>List.mem_append_right _ h) fun x h=>List.mem_append_right _ h)
theorem Nz.set{t b:Nat}{A B:aj}(h9:t≠9999)(e:C (t,b)=some A)(S':St h1 n d (upd C (t,b) (some B)))(hX:(t,b)∈X:=by simp):Nz n d C X Y d (upd C (t,b) (some B)) h1 n:=
 ⟨Nat.le_refl _,S',fun h1 n1 q F=>F.set h9 e _,fun r hx=>bB fun q=>hx (q ▸ hX),fun r _=>rfl⟩
theorem Nz.new{t b i:Nat}{B:Option aj}(h9:t≠9999)(hi:n≤i)(hn:n≤n1)(S':St h1 n1 (upd d (t,b) i) (upd C (t,b) B))(hX:(t,b)∈X:=by simp)(hY:(t,b)∈Y:=by simp):Nz n d C X Y (upd d (t,b) i) (upd C (t,b) B) h1 n1:=
 ⟨hn,S',fun h1 n2 q F=>F.new h9 qJ _,fun r hx=>bB fun q=>hx (q ▸ hX),fun r hx=>bB fun q=>hx (q ▸ hY)⟩
theorem Nz.keep(S:St h n d C)(k:Kept h h1)(w:bQ h1 n1)(hn:n≤n1):Nz n d C X Y d C h1 n1:=⟨hn,S.kept k w,fun _ _ _ F=>F,fun _ _=>rfl,fun _ _=>rfl⟩
end
structure Fy(hz:PT aj)(nz:Nat)(d:Rl→Nat)(C:Rl→Option aj):Prop where
 dz:∀ i,d (9998,i)=i
 cz:∀ i,C (9998,i)=hz.get i
 wf:bQ hz nz
section
variable {hz h:PT aj} {nz n:Nat} {d d':Rl→Nat} {C C':Rl→Option aj}
theorem Fy.kept(F:Fy hz nz d C)(S:St h n d C):Kept hz h:=fun i B e=>by
 have:=S.get (9998,i) B (by rw[F.cz,e])
 rwa [F.dz] at this
theorem Fy.of(F:Fy hz nz d C)(h:∀ b,d' (9998,b)=d (9998,b)∧C' (9998,b)=C (9998,b)):Fy hz nz d' C':=
 ⟨fun i=>by rw[(h i).1];exact F.dz i,fun i=>by rw[(h i).2];exact F.cz i,F.wf⟩
end
theorem Kept.nm{hz h:PT aj}{i:Nat}{B:Option aj}(k:Kept hz h)(e:hz.get i=none):Kept hz (h.set i B):=fun j D q=>by
 by_cases c:j=i
 ·subst c;rw[e] at q;simp at q
 ·rw[az fun e=>c e.symm];exact k j D q
theorem bQ.fresh{hz:PT aj}{n i:Nat}(w:bQ hz n)(h:n≤i):hz.get i=none:=by
 cases e:hz.get i with
 |none=>rfl
 |some B=>have:=w.lt e;omega
abbrev mA:List Rl:=[(0,0),(1,0),(2,0)]
theorem jm.fr{d d':Rl→Nat}{C C':Rl→Option aj}{W:List Int}{L:List Value}{k:Nat}(M:jm d C W L k){X Y:List Rl}(cc:∀ r,r∉X→C' r=C r)(dd:∀ r,r∉Y→d' r=d r)(hX:(0,0)∉X∧(1,0)∉X∧(2,0)∉X)(hY:(0,0)∉Y∧(1,0)∉Y∧(2,0)∉Y):jm d' C' W L k:=
 M.of fun a ha=>by
  have h3:a=0∨a=1∨a=2:=by omega
  rcases h3 with rfl|rfl|rfl
  ·exact⟨dd _ hY.1,cc _ hX.1⟩
  ·exact⟨dd _ hY.2.1,cc _ hX.2.1⟩
  ·exact⟨dd _ hY.2.2,cc _ hX.2.2⟩
theorem Z1{h':PT aj}{n n' g:Nat}{d:Rl→Nat}{C:Rl→Option aj}{W W':List Int}{L L':List Value}{k:Nat}(S:St h' n' (upd d rL g) (mO C (d rW) g W' L' (k+1))){h:PT aj}(S0:St h n d C)(M:jm d C W L k)(hg:n≤g)(hn:n≤n'):Nz n d C mA [(2,0)] (upd d rL g) (mO C (d rW) g W' L' (k+1)) h' n':=
 ⟨hn,S,fun h1 n1 q F=>F.mem S0 M qJ,fun r hx=>by
  simp only[List.mem_cons,List.not_mem_nil,or_false,not_or] at hx;unfold mO;rw[bB hx.1,bB hx.2.2,bB hx.2.1],fun r hx=>bB fun q=>hx (q ▸ by simp)⟩
section
variable {h:PT aj} {n:Nat} {d:Rl→Nat} {C:Rl→Option aj} {W:List Int} {L:List Value} {k a:Nat} {th o x:Int}
theorem PZ(S:St h n d C)(M:jm d C W L k)(hk:k≤100000)(ht:0≤th∧th<64)(ha:a<W.length):
  cE prog OB 163 [pt (d rM),I6 th,I6 a] h n fun v h' n'=>∃ d' C',v=iU [U6 W[a],I6 0]∧Nz n d C mA [(2,0)] d' C' h' n'∧jm d' C' W (L++gU th a 1 W[a] W[a] false) (k+1):=by
 refine(afs oM S M hk ht ha).mono ?_;rintro v h' n' ⟨g,k1,k2,rfl,S'⟩;exact⟨_,_,rfl,Z1 S' S M k1 qJ,jm.next (L:=L) rfl (by rw[List.length_append,M.len];simp[gU];omega)⟩
theorem P3(S:St h n d C)(M:jm d C W L k)(hk:k≤100000)(ht:0≤th∧th<64)(ha:a<W.length):
  cE prog OB 167 [pt (d rM),I6 th,I6 a,U6 x] h n fun v h' n'=>∃ d' C',v=I6 0∧Nz n d C mA [(2,0)] d' C' h' n'∧jm d' C' (W.set a x) (L++gU th a 2 W[a] x false) (k+1):=by
 refine(ZN oM S M hk ht ha).mono ?_;rintro v h' n' ⟨g,k1,k2,rfl,S'⟩;exact⟨_,_,rfl,Z1 S' S M k1 qJ,jm.next (L:=L) List.length_set (by rw[List.length_append,M.len];simp[gU];omega)⟩
theorem arh(S:St h n d C)(M:jm d C W L k)(hk:k≤100000)(ht:0≤th∧th<64)(ha:a<W.length)(hc:W[a]=o):
  cE prog OB 251 [pt (d rM),I6 th,I6 a,U6 o,U6 x] h n fun v h' n'=>∃ d' C',v=iU [.bool true,I6 0]∧Nz n d C mA [(2,0)] d' C' h' n'∧jm d' C' (W.set a x) (L++gU th a 4 o x true) (k+1):=by
 refine(aq5 oM S M hk ht ha hc).mono ?_;rintro v h' n' ⟨g,k1,k2,rfl,S'⟩;exact⟨_,_,rfl,Z1 S' S M k1 qJ,jm.next (L:=L) List.length_set (by rw[List.length_append,M.len];simp[gU];omega)⟩
end
abbrev qM:Rl:=(101,0)
abbrev qW:Rl:=(102,0)
abbrev qL:Rl:=(103,0)
abbrev mB:List Rl:=[(101,0),(102,0),(103,0)]
structure qz(d:Rl→Nat)(C:Rl→Option aj)(W:List Int)(L:List Value)(k:Nat):Prop where
 mem:∃ wc,C qM=row [.slice (some ⟨d qW,0,none⟩) W.length wc,wB (d qL) k]
 words:C qW=row (W.map (.int .u64))
 log:(k=0∧L=[])∨(0<k∧C qL=row L)
 len:L.length=k*6
theorem qz.of{d d':Rl→Nat}{C C':Rl→Option aj}{W:List Int}{L:List Value}{k:Nat}(M:qz d C W L k)(hd:∀ a,101≤a→a≤103→d' (a,0)=d (a,0)∧C' (a,0)=C (a,0)):qz d' C' W L k:=by
 obtain⟨⟨wc,m1⟩,m2,m3,m4⟩:=M;refine⟨⟨wc,?_⟩,?_,?_,m4⟩
 ·rw[(hd 101 qJ qJ).2,(hd 102 qJ qJ).1,(hd 103 qJ qJ).1];exact m1
 ·rw[(hd 102 qJ qJ).2];exact m2
 ·rw[(hd 103 qJ qJ).2];exact m3
end Go.Proofs.YtofmbmclopgldaaGreat
namespace Go.Proofs.YtofmbmclopgldaaGreat
open Go.Am
def oo(h:PT aj):List Nat→PT aj
 | [] => .leaf
 |i::l=>(oo h l).set i (h.get i)
theorem gK{h:PT aj}{j:Nat}:∀ {l:List Nat},(oo h l).get j=if j∈l then h.get j else none
 | []=>by simp[oo]
 |i::l=>by
  rw[oo];by_cases c:j=i
  ·subst c;rw[aI,if_pos (by simp)]
  ·rw[az (fun e=>c e.symm),gK];simp only[List.mem_cons,c,false_or]
theorem Jh{h:PT aj}{n:Nat}(w:bQ h n)(l:List Nat):bQ (oo h l) n:=bQ.of_lt fun i B e=>by
 rw[gK] at e;split at e
 ·exact w.lt e
 ·simp at e
theorem _root_.Go.Am.St.freeze{h h2:PT aj}{n n2:Nat}{d:Rl→Nat}{C:Rl→Option aj}(S:St h n d C)(k:Kept h h2)(w:bQ h2 n2)(l:List Nat)(hl:∀ i∈l,n≤i):
  St h2 n2 (fun r=>if r.1=9998 then r.2 else d r) (fun r=>if r.1=9998 then (oo h2 l).get r.2 else C r)∧Fy (oo h2 l) n2 (fun r=>if r.1=9998 then r.2 else d r) (fun r=>if r.1=9998 then (oo h2 l).get r.2 else C r)∧
   (∀ h1 n1,n1≤n→Fz h1 n1 d C→Fz h1 n1 (fun r=>if r.1=9998 then r.2 else d r) (fun r=>if r.1=9998 then (oo h2 l).get r.2 else C r)):=by
 refine⟨⟨fun r B e=>?_,fun r s q1 q2 q=>?_,w⟩,⟨fun i=>if_pos rfl,fun i=>if_pos rfl,Jh w l⟩,fun h1 n1 hn F=>⟨fun i=>?_,fun i=>?_,fun r B c e=>?_,F.wf⟩⟩
 ·by_cases c:r.1=9998
  ·simp only[if_pos c] at e ⊢;rw[gK] at e;split at e
   ·exact e
   ·simp at e
  ·simp only[if_neg c] at e ⊢;exact k _ _ (S.get r B e)
 ·have UU:∀ r:Rl,r.1≠9998→(if r.1=9998 then (oo h2 l).get r.2 else C r)≠none→C r≠none∧d r<n:=fun r c e=>by
   rw[if_neg c] at e;obtain⟨B,hB⟩:=Option.ne_none_iff_exists'.1 e;exact⟨e,S.lt hB⟩
  have hiS:∀ r:Rl,r.1=9998→(if r.1=9998 then (oo h2 l).get r.2 else C r)≠none→n≤r.2:=fun r c e=>by
   rw[if_pos c,gK] at e;split at e
   ·rename_i hm;exact hl _ hm
   ·exact absurd rfl e
  by_cases c1:r.1=9998
  ·by_cases c2:s.1=9998
   ·simp only[if_pos c1,if_pos c2] at q;exact Prod.ext (c1.trans c2.symm) q
   ·have a:=hiS r c1 q1;have b:=UU s c2 q2;simp only[if_pos c1,if_neg c2] at q;omega
  ·by_cases c2:s.1=9998
   ·have a:=UU r c1 q1;have b:=hiS s c2 q2;simp only[if_neg c1,if_pos c2] at q;omega
   ·have a:=UU r c1 q1;have b:=UU s c2 q2;simp only[if_neg c1,if_neg c2] at q;exact S.inj r s a.1 b.1 q
 ·simp only[show (9999:Nat)≠9998 by decide,if_false];exact F.dz i
 ·simp only[show (9999:Nat)≠9998 by decide,if_false];exact F.cz i
 ·by_cases c1:r.1=9998
  ·simp only[if_pos c1] at e ⊢;rw[gK] at e;split at e
   ·rename_i hm;have:=hl _ hm;omega
   ·simp at e
  ·simp only[if_neg c1] at e ⊢;exact F.lo r B c e
def vl(P:List Rl)(C:Rl→Option aj):Rl→Option aj:=fun r=>if r∈P then C r else none
theorem pO{P:List Rl}{C:Rl→Option aj}{r:Rl}(h:r∈P):vl P C r=C r:=if_pos h
def Cr(P:List Rl)(d:Rl→Nat)(C:Rl→Option aj):List Nat:=(P.filter fun r=>(C r).isSome).map d
theorem tj{P:List Rl}{d:Rl→Nat}{C:Rl→Option aj}{i:Nat}:i∈Cr P d C↔∃ r∈P,C r≠none∧d r=i:=by
 unfold Cr;simp only[List.mem_map,List.mem_filter,Option.isSome_iff_ne_none,and_assoc]
section
variable {h:PT aj} {n:Nat} {d:Rl→Nat} {C:Rl→Option aj} {P:List Rl}
theorem _root_.Go.Am.St.part(S:St h n d C)(P:List Rl):St (oo h (Cr P d C)) n d (vl P C)∧Bg (fun i=>i∈Cr P d C) (fun i=>h.get i) n (oo h (Cr P d C)) h:=by
 refine⟨⟨fun r B e=>?_,fun r s q1 q2 q=>?_,Jh S.wf _⟩,⟨fun i hi=>?_,fun i hi=>?_⟩⟩
 ·unfold vl at e;split at e
  ·rename_i hr;rw[gK,if_pos (tj.2 ⟨r,hr,by rw[e];simp,rfl⟩)];exact S.get r B e
  ·simp at e
 ·unfold vl at q1 q2;split at q1
  ·split at q2
   ·exact S.inj r s q1 q2 q
   ·exact absurd rfl q2
  ·exact absurd rfl q1
 ·rw[gK];split
  ·rfl
  ·rename_i c;exact bQ.fresh S.wf (hi.resolve_left c)
 ·rw[gK,if_neg fun c=>hi (.inl c)];exact⟨rfl,rfl⟩
theorem Nz.join{X Y:List Rl}{d':Rl→Nat}{C1:Rl→Option aj}{h1 h':PT aj}{n':Nat}(S:St h n d C)(hX:∀ r∈X,r∈P∧r.1≠9999)(hY:∀ r∈Y,r∈P∧r.1≠9999)(N:Nz n d (vl P C) X Y d' C1 h1 n')(b:Bg (fun i=>i∈Cr P d C) (fun i=>h.get i) n h1 h'):
  Nz n d C X Y d' (fun r=>if r∈P then C1 r else C r) h' n':=by
 have hout:∀ r B,r∉P→C r=some B→ ¬(d r∈Cr P d C∨n≤d r):=fun r B hr e c=>by
  have:=S.lt e
  rcases c with c |c
  ·obtain⟨s,hs,hc,he⟩:=tj.1 c;have:=S.inj s r hc (by rw[e];simp) he;exact hr (this ▸ hs)
  ·omega
 have Xl:∀ r,r∉P→d' r=d r:=fun r hr=>N.dd r fun q=>hr (hY r q).1;refine⟨N.le,⟨fun r B e=>?_,fun r s q1 q2 q=>?_,bQ.of_lt fun i B e=>?_⟩,fun h0 n0 hn F=>⟨fun i=>?_,fun i=>?_,fun r B c e=>?_,F.wf⟩,fun r hr=>?_,fun r hr=>N.dd r hr⟩
 ·split at e
  ·exact(b.has (N.st.get r B e)).2
  ·rename_i hr;rw[Xl r hr,(b.off _ (hout r B hr e)).2];exact S.get r B e
 ·by_cases c1:r∈P
  ·rw[if_pos c1] at q1;by_cases c2:s∈P
   ·rw[if_pos c2] at q2;exact N.st.inj r s q1 q2 q
   ·rw[if_neg c2] at q2;obtain⟨B,hB⟩:=Option.ne_none_iff_exists'.1 q1;obtain⟨B2,hB2⟩:=Option.ne_none_iff_exists'.1 q2;have:=(b.has (N.st.get r B hB)).1;rw[q,Xl s c2] at this;exact absurd this (hout s B2 c2 hB2)
  ·rw[if_neg c1] at q1;obtain⟨B,hB⟩:=Option.ne_none_iff_exists'.1 q1;by_cases c2:s∈P
   ·rw[if_pos c2] at q2;obtain⟨B2,hB2⟩:=Option.ne_none_iff_exists'.1 q2;have:=(b.has (N.st.get s B2 hB2)).1;rw[←q,Xl r c1] at this;exact absurd this (hout r B c1 hB)
   ·rw[if_neg c2] at q2;rw[Xl r c1,Xl s c2] at q;exact S.inj r s q1 q2 q
 ·by_cases c:i∈Cr P d C∨n≤i
  ·rw[b.on i c] at e;exact N.st.wf.lt e
  ·rw[(b.off i c).2] at e;have:=S.wf.lt e;have:=N.le;omega
 ·rw[N.dd _ fun q=>(hY _ q).2 rfl];exact F.dz i
 ·split
  ·rename_i hr;rw[N.cc _ fun q=>(hX _ q).2 rfl,pO hr];exact F.cz i
  ·exact F.cz i
 ·split at e
  ·rename_i hr
   rcases(b.has (N.st.get r B e)).1 with c2 |c2
   ·obtain⟨s,hs,hc,he⟩:=tj.1 c2;obtain⟨B2,hB2⟩:=Option.ne_none_iff_exists'.1 hc;by_cases c9:s.1=9999
    ·have h1:C1 s≠none:=by
      rw[N.cc s fun q=>(hX s q).2 c9,pO hs];exact hc
     have h2:d' s=d s:=N.dd s fun q=>(hY s q).2 c9;have:=N.st.inj r s (by rw[e];simp) h1 (by rw[h2,he]);exact absurd (this ▸ c9) c
    ·rw[←he];exact F.lo s B2 c9 hB2
   ·omega
  ·rename_i hr;rw[Xl r hr];exact F.lo r B c e
 ·split
  ·rename_i hp;rw[N.cc r hr,pO hp]
  ·rfl
theorem AO{l:List Nat}{i n:Nat}{D:Nat→Prop}(h:∀ x∈l,x∈([]:List Nat)∨D x∨n≤x)(hi:i<n)(hD: ¬ D i):meets l [i]=false∧meets [i] l=false:=by
 have hn:i∉l:=fun c=>by
  rcases h i c with q |q |q
  ·simp at q
  ·exact hD q
  ·omega
 refine⟨?_,?_⟩
 ·unfold meets;rw[List.any_eq_false];intro x hx;simp only[List.any_cons,List.any_nil,Bool.or_false];intro c;exact hn (Nat.eq_of_beq_eq_true c ▸ hx)
 ·unfold meets;simp only[List.any_cons,List.any_nil,Bool.or_false];rw[List.any_eq_false];intro x hx c;exact hn (Nat.eq_of_beq_eq_true c ▸ hx)
theorem lN(P:List Rl){z:Zx}{K:List KF}{m:Tm}{L:List (Nat×Nat)}{dd:Option Nat}{ops r:List Oper}{lo:Nat}{fs:List bO}{f:FuncId}{args:List Value}{X Y:List Rl}{pr:Program}{O:Over}{Q:Value→(Rl→Nat)→(Rl→Option aj)→Prop}(S:St h n d C)
  (e:∀ h1,St h1 n d (vl P C)→cE pr O f args h1 n fun v h' n'=>∃ d' C',Nz n d (vl P C) X Y d' C' h' n'∧Q v d' C') (hX:∀ r∈X,r∈P∧r.1≠9999) (hY:∀ r∈Y,r∈P∧r.1≠9999) (hP:z.P=pr) (hzO:z.O=O) (hm:m.n=z.N) (hO:z.O f args=none)
  (hk:∀ v h' n' d' C1 C',Nz n d C X Y d' C' h' n'→(∀ r∈P,C' r=C1 r)→Q v d' C1→∀ rd' wr',(∀ i,i<n→(∀ r∈P,C r≠none→d r≠i)→(meets rd' [i]=false∧meets [i] rd'=false)∧(meets wr' [i]=false∧meets [i] wr'=false))→lD z L (.pure (.value v)) dd ops r K m h' n' lo rd' wr' fs):
  lD z L (.pure (.enter f args)) dd ops r K m h n lo [] [] fs:=by
 subst hP hzO;obtain⟨S1,b⟩:=S.part P;refine OD hm hO b (e _ S1) ?_;rintro v h1' n' h' ⟨d',C1,N,q⟩ hn b' rd' wr' h1 h2;refine hk v h' n' d' C1 _ (Nz.join S hX hY N b') (fun r hr=>if_pos hr) q rd' wr' fun i hi hd=>?_;have hD: ¬ i∈Cr P d C:=fun c=>by
  obtain⟨r,hr,hc,he⟩:=tj.1 c;exact hd r hr hc he
 exact⟨AO h1 hi hD,AO h2 hi hD⟩
theorem _root_.Go.Am.St.off(S:St h n d C){s:Rl}{B:aj}(e:C s=some B)(hs:s∉P):∀ r∈P,C r≠none→d r≠d s:=fun r hr hc q=>hs (S.inj r s hc (by rw[e];simp) q ▸ hr)
end
end Go.Proofs.YtofmbmclopgldaaGreat
namespace Go.Proofs.YtofmbmclopgldaaGreat
open Go.Am Go.Proofs.Tryz
def qC(C:Rl→Option aj)(w g wc:Nat)(W:List Int)(L:List Value)(k:Nat):Rl→Option aj:=upd (upd (upd C qW (row (W.map (.int .u64)))) qL (row L)) qM (row [.slice (some ⟨w,0,none⟩) W.length wc,.slice (some ⟨g,0,none⟩) k (aA+6)])
theorem qz.next{d:Rl→Nat}{C:Rl→Option aj}{W W':List Int}{L':List Value}{k g wc:Nat}(hw:W'.length=W.length)(hl:L'.length=(k+1)*6):qz (upd d qL g) (qC C (d qW) g wc W' L' (k+1)) W' L' (k+1):=by
 refine⟨⟨wc,?_⟩,?_,.inr ⟨by omega,?_⟩,hl⟩
 ·unfold qC wB;rw[aq,if_neg qJ,aq,au qi]
 ·unfold qC;rw[au qi,au qi,aq]
 ·unfold qC;rw[au qi,aq]
theorem Lq{h':PT aj}{n n' g wc:Nat}{d:Rl→Nat}{C:Rl→Option aj}{W W':List Int}{L L':List Value}{k:Nat}(S:St h' n' (upd d qL g) (qC C (d qW) g wc W' L' (k+1))){h:PT aj}(S0:St h n d C)(M:qz d C W L k)(hg:n≤g)(hn:n≤n'):Nz n d C mB [(103,0)] (upd d qL g) (qC C (d qW) g wc W' L' (k+1)) h' n':=
 ⟨hn,S,fun h1 n1 q F=>((F.set (a:=102) qi M.words _).new (a:=103) qi qJ _).set (a:=101) qi ((au qi).trans ((au qi).trans M.mem.choose_spec)) _,fun r hx=>by
  simp only[List.mem_cons,List.not_mem_nil,or_false,not_or] at hx;unfold qC;rw[bB hx.1,bB hx.2.2,bB hx.2.1],fun r hx=>bB fun q=>hx (q ▸ by simp)⟩
variable {O:Over}
structure UW(O:Over):Prop where
 c:O 170=fun _=>none
 t:O 82=fun _=>none
 a:O 171=fun _=>none
theorem HE(oQ:UW O){h:PT aj}{n:Nat}{d:Rl→Nat}{C:Rl→Option aj}{W:List Int}{L:List Value}{k a:Nat}{th:Int}(S:St h n d C)(M:qz d C W L k)(hk:k≤100000)(ht:0≤th∧th<64)(ha:a<W.length):
  cE prog O 90 [pt (d qM),I6 th,I6 a] h n fun v h' n'=>∃ d' C',v=iU [U6 W[a],I6 0]∧Nz n d C mB [(103,0)] d' C' h' n'∧qz d' C' W (L++gU th a 1 W[a] W[a] false) (k+1):=by
 have M0:=M;obtain⟨⟨wc,m1⟩,m2,m3,m4⟩:=M;obtain⟨o1,o2,o3⟩:=oQ;have g1:=S.at m1;have g2:=S.at m2;have n1:=S.lt m1;have n2:=S.lt m2;have d1:=S.df m1 m2 qi;have hg:=dP ha;have a1:(0:Int)≤(a:Int):=by omega
 have a2:(a:Int)<(W.length:Int):=by omega
 obtain⟨t1,t2⟩:=ht;have hk2:k+1≤1048576:=by omega
 have zR:(L++gU th a 1 W[a] W[a] false).length=(k+1)*6:=by rw[List.length_append,m4];simp[gU];omega
 have rP:(W).length=W.length:=by first|rfl|exact List.length_set
 have ZO:(W.map (Value.int .u64)).set a (.int .u64 W[a])=W.map (.int .u64):=by rw[←List.map_set,List.set_getElem_self]
 generalize W[a]=x at*;refine ay (N:=30) func90 rfl rfl fun z hP hO hro hN hQ=>?_
 rcases m3 with ⟨rfl,rfl⟩ | ⟨k0,m3⟩
 ·have e0:wB (d qL) 0 = .slice none 0 0:=if_pos rfl;rw[e0] at g1;clear e0
  repeat' first|simp(disch:=first|omega|assumption) only[go_sem, *] | (apply xs<;>intro _)<;>try omega | ((with_reducible refine b8 2 ?_);refine dw 43 2 X3 (by first | (simp only[go_sem, *];done)|rfl) (by kernel_rfl) (by kernel_rfl) ?_)|refine fun (_ _:List Nat)=>?_ | (first|refine bD func170 rfl ?_ ?_ ?_ ?_ |refine bD func82 rfl ?_ ?_ ?_ ?_ |refine bD func171 rfl ?_ ?_ ?_ ?_ |fail)<;>intros
  exact⟨_,_,Lq ((((((S.xV (Nat.le_refl _) (Nat.lt_succ_self _)).set qW _ m2 rfl).junk (Nat.le_refl _) (Nat.lt_succ_self _)).new qL _ (Nat.le_refl _) (Nat.lt_succ_self _)).set qM _ ((au qi).trans ((au qi).trans m1)) (au qi)).eq (by unfold qC;rw[rP];rfl) rfl) S M0 qJ qJ,qz.next rP zR⟩
 ·have e0:wB (d qL) k = .slice (some ⟨d qL,0,none⟩) k (aA+6):=if_neg qJ;rw[e0] at g1;have g3:=S.at m3;have n3:=S.lt m3;have d2:=S.df m1 m3 qi;have d3:=S.df m2 m3 qi;have zJ:List.take (k*6) L=L:=List.take_of_length_le qJ;clear e0
  repeat' first|simp(disch:=first|omega|assumption) only[go_sem, *] | (apply xs<;>intro _)<;>try omega | ((with_reducible refine b8 2 ?_);refine dw 43 2 X3 (by first | (simp only[go_sem, *];done)|rfl) (by kernel_rfl) (by kernel_rfl) ?_)|refine fun (_ _:List Nat)=>?_ | (first|refine bD func170 rfl ?_ ?_ ?_ ?_ |refine bD func82 rfl ?_ ?_ ?_ ?_ |refine bD func171 rfl ?_ ?_ ?_ ?_ |fail)<;>intros
  exact⟨_,_,Lq (((((((S.xV (Nat.le_refl _) (Nat.lt_succ_self _)).set qW _ m2 rfl).junk (Nat.le_refl _) (Nat.lt_succ_self _)).kill qL ((au qi).trans m3) rfl).new qL _ (Nat.le_refl _) (Nat.lt_succ_self _)).set qM _ ((au qi).trans ((au qi).trans ((au qi).trans m1))) (au qi)).eq (by unfold qC;rw[gn,rP];rfl) rfl) S M0 qJ qJ,qz.next rP zR⟩
theorem wD(oQ:UW O){h:PT aj}{n:Nat}{d:Rl→Nat}{C:Rl→Option aj}{W:List Int}{L:List Value}{k a:Nat}{th x:Int}(S:St h n d C)(M:qz d C W L k)(hk:k≤100000)(ht:0≤th∧th<64)(ha:a<W.length):
  cE prog O 168 [pt (d qM),I6 th,I6 a,U6 x] h n fun v h' n'=>∃ d' C',v=I6 0∧Nz n d C mB [(103,0)] d' C' h' n'∧qz d' C' (W.set a x) (L++gU th a 2 W[a] x false) (k+1):=by
 have M0:=M;obtain⟨⟨wc,m1⟩,m2,m3,m4⟩:=M;obtain⟨o1,o2,o3⟩:=oQ;have g1:=S.at m1;have g2:=S.at m2;have n1:=S.lt m1;have n2:=S.lt m2;have d1:=S.df m1 m2 qi;have hg:=dP ha;have a1:(0:Int)≤(a:Int):=by omega
 have a2:(a:Int)<(W.length:Int):=by omega
 obtain⟨t1,t2⟩:=ht;have hk2:k+1≤1048576:=by omega
 have zR:(L++gU th a 2 W[a] x false).length=(k+1)*6:=by rw[List.length_append,m4];simp[gU];omega
 have rP:((W.set a x)).length=W.length:=by first|rfl|exact List.length_set
 have ZO:(W.map (Value.int .u64)).set a (.int .u64 x)=(W.set a x).map (.int .u64):=by rw[List.map_set]
 generalize W[a]=y at*;generalize W.set a x=W2 at*;refine ay (N:=22) func168 rfl rfl fun z hP hO hro hN hQ=>?_
 rcases m3 with ⟨rfl,rfl⟩ | ⟨k0,m3⟩
 ·have e0:wB (d qL) 0 = .slice none 0 0:=if_pos rfl;rw[e0] at g1;clear e0
  repeat' first|simp(disch:=first|omega|assumption) only[go_sem, *] | (apply xs<;>intro _)<;>try omega | ((with_reducible refine b8 2 ?_);refine dw 43 2 X3 (by first | (simp only[go_sem, *];done)|rfl) (by kernel_rfl) (by kernel_rfl) ?_)|refine fun (_ _:List Nat)=>?_ | (first|refine bD func170 rfl ?_ ?_ ?_ ?_ |refine bD func82 rfl ?_ ?_ ?_ ?_ |refine bD func171 rfl ?_ ?_ ?_ ?_ |fail)<;>intros
  exact⟨_,_,Lq ((((((S.xV (Nat.le_refl _) (Nat.lt_succ_self _)).set qW _ m2 rfl).junk (Nat.le_refl _) (Nat.lt_succ_self _)).new qL _ (Nat.le_refl _) (Nat.lt_succ_self _)).set qM _ ((au qi).trans ((au qi).trans m1)) (au qi)).eq (by unfold qC;rw[rP];rfl) rfl) S M0 qJ qJ,qz.next rP zR⟩
 ·have e0:wB (d qL) k = .slice (some ⟨d qL,0,none⟩) k (aA+6):=if_neg qJ;rw[e0] at g1;have g3:=S.at m3;have n3:=S.lt m3;have d2:=S.df m1 m3 qi;have d3:=S.df m2 m3 qi;have zJ:List.take (k*6) L=L:=List.take_of_length_le qJ;clear e0
  repeat' first|simp(disch:=first|omega|assumption) only[go_sem, *] | (apply xs<;>intro _)<;>try omega | ((with_reducible refine b8 2 ?_);refine dw 43 2 X3 (by first | (simp only[go_sem, *];done)|rfl) (by kernel_rfl) (by kernel_rfl) ?_)|refine fun (_ _:List Nat)=>?_ | (first|refine bD func170 rfl ?_ ?_ ?_ ?_ |refine bD func82 rfl ?_ ?_ ?_ ?_ |refine bD func171 rfl ?_ ?_ ?_ ?_ |fail)<;>intros
  exact⟨_,_,Lq (((((((S.xV (Nat.le_refl _) (Nat.lt_succ_self _)).set qW _ m2 rfl).junk (Nat.le_refl _) (Nat.lt_succ_self _)).kill qL ((au qi).trans m3) rfl).new qL _ (Nat.le_refl _) (Nat.lt_succ_self _)).set qM _ ((au qi).trans ((au qi).trans ((au qi).trans m1))) (au qi)).eq (by unfold qC;rw[gn,rP];rfl) rfl) S M0 qJ qJ,qz.next rP zR⟩
theorem afY(oQ:UW O){h:PT aj}{n:Nat}{d:Rl→Nat}{C:Rl→Option aj}{W:List Int}{L:List Value}{k a:Nat}{th o x:Int}(S:St h n d C)(M:qz d C W L k)(hk:k≤100000)(ht:0≤th∧th<64)(ha:a<W.length)(hc:W[a]=o):
  cE prog O 220 [pt (d qM),I6 th,I6 a,U6 o,U6 x] h n fun v h' n'=>∃ d' C',v=iU [.bool true,I6 0]∧Nz n d C mB [(103,0)] d' C' h' n'∧qz d' C' (W.set a x) (L++gU th a 4 o x true) (k+1):=by
 have M0:=M;obtain⟨⟨wc,m1⟩,m2,m3,m4⟩:=M;obtain⟨o1,o2,o3⟩:=oQ;have g1:=S.at m1;have g2:=S.at m2;have n1:=S.lt m1;have n2:=S.lt m2;have d1:=S.df m1 m2 qi;have hg:=dP ha;have a1:(0:Int)≤(a:Int):=by omega
 have a2:(a:Int)<(W.length:Int):=by omega
 obtain⟨t1,t2⟩:=ht;have hk2:k+1≤1048576:=by omega
 have zR:(L++gU th a 4 o x true).length=(k+1)*6:=by rw[List.length_append,m4];simp[gU];omega
 have rP:((W.set a x)).length=W.length:=by first|rfl|exact List.length_set
 have ZO:(W.map (Value.int .u64)).set a (.int .u64 x)=(W.set a x).map (.int .u64):=by rw[List.map_set]
 have hbo:(o==o)=true:=by simp
 rw[hc] at hg;clear hc;generalize W.set a x=W2 at*;refine ay (N:=41) func220 rfl rfl fun z hP hO hro hN hQ=>?_
 rcases m3 with ⟨rfl,rfl⟩ | ⟨k0,m3⟩
 ·have e0:wB (d qL) 0 = .slice none 0 0:=if_pos rfl;rw[e0] at g1;clear e0
  repeat' first|simp(disch:=first|omega|assumption) only[go_sem, *] | (apply xs<;>intro _)<;>try omega | ((with_reducible refine b8 2 ?_);refine dw 43 2 X3 (by first | (simp only[go_sem, *];done)|rfl) (by kernel_rfl) (by kernel_rfl) ?_)|refine fun (_ _:List Nat)=>?_ | (first|refine bD func170 rfl ?_ ?_ ?_ ?_ |refine bD func82 rfl ?_ ?_ ?_ ?_ |refine bD func171 rfl ?_ ?_ ?_ ?_ |fail)<;>intros
  exact⟨_,_,Lq ((((((S.xV (Nat.le_refl _) (Nat.lt_succ_self _)).set qW _ m2 rfl).junk (Nat.le_refl _) (Nat.lt_succ_self _)).new qL _ (Nat.le_refl _) (Nat.lt_succ_self _)).set qM _ ((au qi).trans ((au qi).trans m1)) (au qi)).eq (by unfold qC;rw[rP];rfl) rfl) S M0 qJ qJ,qz.next rP zR⟩
 ·have e0:wB (d qL) k = .slice (some ⟨d qL,0,none⟩) k (aA+6):=if_neg qJ;rw[e0] at g1;have g3:=S.at m3;have n3:=S.lt m3;have d2:=S.df m1 m3 qi;have d3:=S.df m2 m3 qi;have zJ:List.take (k*6) L=L:=List.take_of_length_le qJ;clear e0
  repeat' first|simp(disch:=first|omega|assumption) only[go_sem, *] | (apply xs<;>intro _)<;>try omega | ((with_reducible refine b8 2 ?_);refine dw 43 2 X3 (by first | (simp only[go_sem, *];done)|rfl) (by kernel_rfl) (by kernel_rfl) ?_)|refine fun (_ _:List Nat)=>?_ | (first|refine bD func170 rfl ?_ ?_ ?_ ?_ |refine bD func82 rfl ?_ ?_ ?_ ?_ |refine bD func171 rfl ?_ ?_ ?_ ?_ |fail)<;>intros
  exact⟨_,_,Lq (((((((S.xV (Nat.le_refl _) (Nat.lt_succ_self _)).set qW _ m2 rfl).junk (Nat.le_refl _) (Nat.lt_succ_self _)).kill qL ((au qi).trans m3) rfl).new qL _ (Nat.le_refl _) (Nat.lt_succ_self _)).set qM _ ((au qi).trans ((au qi).trans ((au qi).trans m1))) (au qi)).eq (by unfold qC;rw[gn,rP];rfl) rfl) S M0 qJ qJ,qz.next rP zR⟩
end Go.Proofs.YtofmbmclopgldaaGreat
namespace Go.Proofs.YtofmbmclopgldaaGreat
open Go.Am
def vm(W:List Int)(a:Int):Int:=if 0≤a∧a<W.length then W.getD a.toNat 0 else 0
theorem iJ{W:List Int}{i:Nat}(hi:i<W.length):vm W i=W[i]:=by
 unfold vm;rw[if_pos qJ,Int.toNat_natCast];simp[List.getD,hi]
theorem aeV{W:List Int}{a:Int}(h:a<0∨(W.length:Int)≤a):vm W a=0:=if_neg qJ
def Ji(l:dg)(W:List Int)(r lv:Int):Int:=if sS l r lv=0 then (if vm W (rE l r lv)≤l.H.length then vm W (rE l r lv) else 0) else 0
theorem tq{W:List Int}(h:∀ x∈W,0≤x∧x<18446744073709551616)(a:Int):0≤vm W a∧vm W a<18446744073709551616:=by
 unfold vm;split
 ·rename_i hc;have:W.getD a.toNat 0=W[a.toNat]'qJ:=by simp[List.getD,show a.toNat<W.length by omega]
  rw[this];exact h _ (List.getElem_mem _)
 ·omega
theorem Lr{l:dg}{W:List Int}{r lv:Int}(hu:∀ x∈W,0≤x∧x<18446744073709551616):0≤Ji l W r lv∧Ji l W r lv≤l.H.length:=by
 have:=tq hu (rE l r lv);unfold Ji;split
 ·split<;>omega
 ·omega
def chain(l:dg)(W:List Int)(lv:Int):Nat→List Bool→Int→List Int
 |0,_,_=>[]
 |f+1,S,r=>if 0<r∧S.getD r.toNat true=false∧lv<qx l.H r then r::chain l W lv f (S.set r.toNat true) (Ji l W r lv) else []
theorem count_set{S:List Bool}{i:Nat}(h:S[i]? = some false):(S.set i true).count false+1=S.count false:=by
 induction S generalizing i with
 |nil=>simp at h
 |cons x S ih=>
  cases i with
  |zero=>
   simp only[List.getElem?_cons_zero,Option.some.injEq] at h;subst h;simp
  |succ i=>
   simp only[List.getElem?_cons_succ] at h;have:=ih h;simp only[List.set_cons_succ,List.count_cons];omega
def wE(l:dg)(W:List Int)(v lv:Int):List Int:=chain l W lv (l.H.length+1) (List.replicate (l.H.length+1) false) (Ji l W (-1-v) lv)
theorem P_:∀ (H:List Int) (a:Int) (i:Nat),i<H.length→(∀ j,j<H.length→1≤H.getD j 0∧H.getD j 0≤6)→a≤(tN a H).getD i 0∧(tN a H).getD i 0+(5+H.getD i 0)≤cS a H
 | [],a,i,hi,_=>by simp at hi
 |x::r,a,0,_,hb=>by
  have hx:=hb 0 (by simp);simp only[List.getD_cons_zero] at hx;have:=jE r (a+(5+x)) fun j hj=>by have:=hb (j+1) (by simpa using hj);simpa using this
  simp only[tN,cS,List.getD_cons_zero];omega
 |x::r,a,i+1,hi,hb=>by
  have hx:=hb 0 (by simp);simp only[List.getD_cons_zero] at hx;have:=P_ r (a+(5+x)) i (by simpa using hi) fun j hj=>by have:=hb (j+1) (by simpa using hj);simpa using this
  simp only[tN,cS,List.getD_cons_succ];omega
theorem aaW:∀ (H:List Int) (a:Int) (i j:Nat),i<j→j<H.length→(∀ j,j<H.length→1≤H.getD j 0∧H.getD j 0≤6)→(tN a H).getD i 0+(5+H.getD i 0)≤(tN a H).getD j 0
 | [],a,i,j,_,hj,_=>by simp at hj
 |x::r,a,i,0,hij,_,_=>by omega
 |x::r,a,0,j+1,_,hj,hb=>by
  have:=P_ r (a+(5+x)) j (by simpa using hj) fun j hj=>by have:=hb (j+1) (by simpa using hj);simpa using this
  simp only[tN,List.getD_cons_succ,List.getD_cons_zero];omega
 |x::r,a,i+1,j+1,hij,hj,hb=>by
  have:=aaW r (a+(5+x)) i j qJ (by simpa using hj) fun j hj=>by have:=hb (j+1) (by simpa using hj);simpa using this
  simp only[tN,List.getD_cons_succ];omega
def hgt(l:dg)(t:Int):Int:=l.H.getD (t-1).toNat 0
def ta(l:dg)(t:Int):Nat:=(l.T.getD (t-1).toNat 0).toNat
def ux(l:dg)(t:Int):Prop:=1≤t∧t≤l.H.length
def Nd(l:dg)(V r k:Int):Prop:=0≤k∧((r<0 ∧ -1-r<V∧k<6)∨(ux l r∧k<hgt l r))
def na(l:dg)(r k:Int):Nat:=if r<0 then (l.P.getD 7 0+(-1-r)*7+1+k).toNat else ta l r+5+k.toNat
section
variable {l:dg} {V:Int} {sz:Nat}
theorem qy.vh(hn:qy l V sz){t:Int}(ht:ux l t):l.P.getD 8 0≤(ta l t:Int)∧(ta l t:Int)=l.T.getD (t-1).toNat 0∧(ta l t:Int)+5+hgt l t≤sz∧1≤hgt l t∧hgt l t≤6:=by
 obtain⟨h1,h2⟩:=ht;have hi:(t-1).toNat<l.H.length:=by omega
 have hu:=P_ l.H (l.P.getD 8 0) _ hi hn.yL.bd;have hb:=hn.yL.bd _ hi;have e8:=hn.p8;have e7:=hn.p7;have eV:=hn.V1;rw[hn.h_,←hn.T] at hu;unfold ta hgt;omega
theorem qy.step(hn:qy l V sz){t u:Int}(ht:ux l t)(hu:ux l u)(h:t<u):ta l t+5+(hgt l t).toNat≤ta l u:=by
 have a:=hn.vh ht;have b:=hn.vh hu;obtain⟨h1,h2⟩:=ht;obtain⟨h3,h4⟩:=hu;have:=aaW l.H (l.P.getD 8 0) (t-1).toNat (u-1).toNat qJ qJ hn.yL.bd;rw[←hn.T] at this;unfold hgt at*;omega
theorem qy.apart(hn:qy l V sz){t u:Int}{w x:Nat}(ht:ux l t)(hu:ux l u)(hw:(w:Int)<5+hgt l t)(hx:(x:Int)<5+hgt l u)(e:ta l t+w=ta l u+x):t=u∧w=x:=by
 rcases Int.lt_trichotomy t u with h |h |h
 ·have:=hn.step ht hu h;have:=hn.vh ht;omega
 ·subst h;exact⟨rfl,by omega⟩
 ·have:=hn.step hu ht h;have:=hn.vh hu;omega
theorem qy.naR(hn:qy l V sz){r k:Int}(h:Nd l V r k):(l.P.getD 7 0<na l r k)∧na l r k<sz:=by
 obtain⟨hk,h |h⟩:=h
 ·have e8:=hn.p8;have e7:=hn.p7;have hV:=hn.V2;have LP:=jE l.H (l.P.getD 8 0) hn.yL.bd;rw[hn.h_] at LP;unfold na;rw[if_pos h.1];omega
 ·have:=hn.vh h.1;have e8:=hn.p8;have e7:=hn.p7;have hV:=hn.V1;unfold na;rw[if_neg (by have:=h.1.1;omega)];omega
theorem qy.X5(hn:qy l V sz){r k r' k':Int}(h:Nd l V r k)(h':Nd l V r' k')(e:na l r k=na l r' k'):r=r'∧k=k':=by
 have e8:=hn.p8;have e7:=hn.p7;obtain⟨hk,h |h⟩:=h
 ·obtain⟨hk',h' |h'⟩:=h'
  ·unfold na at e;rw[if_pos h.1,if_pos h'.1] at e;omega
  ·have:=hn.vh h'.1;unfold na at e;rw[if_pos h.1,if_neg (by have:=h'.1.1;omega)] at e;omega
 ·obtain⟨hk',h' |h'⟩:=h'
  ·have:=hn.vh h.1;unfold na at e;rw[if_neg (by have:=h.1.1;omega),if_pos h'.1] at e;omega
  ·unfold na at e;rw[if_neg (by have:=h.1.1;omega),if_neg (by have:=h'.1.1;omega)] at e;have:=hn.apart (w:=5+k.toNat) (x:=5+k'.toNat) h.1 h'.1 qJ qJ qJ;omega
theorem qy.naW(hn:qy l V sz){r k t:Int}{w:Nat}(h:Nd l V r k)(ht:ux l t)(hw:w<5):na l r k≠ta l t+w:=fun e=>by
 have e8:=hn.p8;have e7:=hn.p7;have a:=hn.vh ht;obtain⟨hk,h |h⟩:=h
 ·unfold na at e;rw[if_pos h.1] at e;omega
 ·unfold na at e;rw[if_neg (by have:=h.1.1;omega)] at e;have:=hn.apart (w:=5+k.toNat) (x:=w) h.1 ht qJ qJ qJ;omega
theorem qy.wrd(hn:qy l V sz){t w:Int}(ht:ux l t)(hw:0≤w∧w≤4):Ht l t w=(ta l t:Int)+w∧Hu l t w=0:=by
 have a:=hn.vh ht;have h2:=hn.RY;unfold Ht Hu;rw[if_pos ⟨ht,hw⟩,if_pos ⟨ht,hw⟩,wrap_i64 qJ qJ,a.2.1];exact⟨rfl,rfl⟩
theorem qy.nxt(hn:qy l V sz){r k:Int}(h:Nd l V r k):rE l r k=na l r k∧sS l r k=0:=by
 have h2:=hn.RY;have hR:=hn.naR h;obtain⟨hk,h |h⟩:=h
 ·have e7:=hn.p7;have hV:=hn.V2;have hw:IntKind.i64.wrap (-1-r) = -1-r:=wrap_i64 qJ qJ;have hih:gi l r:=⟨h.1,by rw[hw,hn.eV];exact h.2.1⟩;have c:gi l r∧(0≤k∧k≤5):=⟨hih,by omega⟩;unfold rE sS na yE;rw[if_pos c,if_pos c,if_pos h.1,hw];have hi:IntKind.i64.wrap ((-1-r)*7)=(-1-r)*7:=wrap_i64 qJ qJ;rw[hi,wrap_i64 (x:=l.P.getD 7 0+_) qJ qJ,wrap_i64 (x:=_+1) qJ qJ,wrap_i64 qJ qJ];exact⟨by omega,rfl⟩
 ·have a:=hn.vh h.1;obtain⟨⟨t1,t2⟩,hkh⟩:=h;have hw:IntKind.i64.wrap (l.H.getD (r-1).toNat 0-1)=hgt l r-1:=by unfold hgt at *;exact wrap_i64 qJ qJ
  have c1: ¬ (gi l r∧(0≤k∧k≤5)):=fun q=>by have:=q.1.1;omega
  have c2:pI l r k:=⟨⟨t1,t2⟩,hk,by rw[hw];omega⟩;unfold rE sS na;rw[if_neg c1,if_neg c1,if_pos c2,if_pos c2,if_neg qJ,←a.2.1,wrap_i64 (x:=_+5) qJ qJ,wrap_i64 qJ qJ];exact⟨by omega,rfl⟩
theorem qy.af0(hn:qy l V sz){r k:Int}(h: ¬ Nd l V r k)(hr : -9223372036854775808≤r):rE l r k=0∧sS l r k=3:=by
 have c1: ¬ (gi l r∧(0≤k∧k≤5)):=fun q=>by
  obtain⟨⟨a,b⟩,c⟩:=q;rw[wrap_i64 qJ qJ,hn.eV] at b;exact h ⟨c.1,.inl ⟨a,b,by omega⟩⟩
 have c2: ¬ pI l r k:=fun q=>by
  obtain⟨⟨t1,t2⟩,q1,q2⟩:=q;have hb:=hn.yL.bd (r-1).toNat qJ;rw[wrap_i64 qJ qJ] at q2;exact h ⟨q1,.inr ⟨⟨t1,t2⟩,by unfold hgt;omega⟩⟩
 unfold rE sS;rw[if_neg c1,if_neg c1,if_neg c2,if_neg c2];exact⟨rfl,rfl⟩
end
end Go.Proofs.YtofmbmclopgldaaGreat
