/-
A part.
-/
import Derived.Test.YtofmbmclopgldaaGreatSOA
import Derived.Test.YtofmbmclopgldaaGreatSS5
import Derived.Test.YtofmbmclopgldaaGreatAmZ
import Derived.Test.YtofmbmclopgldaaGreatOut1
set_option linter.all false
set_option maxRecDepth 100000
set_option maxHeartbeats 32000000
namespace Go.Proofs.YtofmbmclopgldaaGreat
open Go.Am Go.Proofs.Tryz
attribute [go_sem] underlying79 underlying80 underlying81
@[go_sem] theorem aF3:aas 79 1 false [.slice none 0 0]∧aas 80 1 false [.slice none 0 0]∧aas 81 1 false [.slice none 0 0]:=by
 (repeat' refine And.intro ?_ ?_)<;>kernel_rfl
@[go_sem] theorem aF4:vV prog 79=some (none,3)∧CS prog 79=some (3,24,[.int .i64 0,.int .i64 0,.int .u64 0])∧DU prog 79 79=some (3,24,3)∧vV prog 80=some (none,1)∧CS prog 80=some (1,8,[.pointer none])∧DU prog 80 80=some (1,8,1)∧vV prog 81=some (none,1)∧CS prog 81=some (1,8,[.pointer none])∧DU prog 81 81=some (1,8,1):=by
 (repeat' refine And.intro ?_ ?_)<;>kernel_rfl
@[go_sem] def N19:List (Nat×Nat):=aan [(0,1,1),(0,7,7),(0,9,9),(0,10,10),(0,9,11),(0,9,12),(0,9,13),(0,14,14),(6,8,15),(6,3,16)]
@[go_sem] def N25:List (Nat×Nat):=aan [(0,2,2),(0,3,3),(0,4,4),(0,5,5),(0,4,6),(0,4,7),(0,4,8),(11,1,12),(12,1,13)]
@[go_sem] def N24:List (Nat×Nat):=aan [(0,2,2),(0,3,3),(0,4,4),(0,5,5),(0,4,6),(0,4,7),(0,4,8),(11,1,12),(12,1,13)]
@[go_sem] def N17:List (Nat×Nat):=aan [(0,1,1),(4,1,5),(9,1,10),(9,4,13),(9,5,14),(9,4,15),(9,4,16)]
@[go_sem] def w40_2:List (Nat×Nat):=aan [(0,1,1),(1,1,2)]
@[go_sem] def aF5:List (Nat×Nat):=aan [(0,1,1),(1,1,2)]
@[go_sem] def aF6:List (Nat×Nat):=aan [(0,1,1),(1,1,2)]
@[go_sem] def aF7:List (Nat×Nat):=aan [(0,4,4),(0,4,5),(0,4,6),(0,4,7),(0,8,8),(0,8,9),(0,8,10),(0,8,11),(4,8,12),(8,4,13)]
@[go_sem] def aF8:List (Nat×Nat):=aan [(0,1,1),(0,4,4),(0,5,5),(0,4,6),(0,4,7)]
@[go_sem] def arK:List (Nat×Nat):=aan [(0,1,1),(0,1,2),(0,1,3),(0,1,4),(0,5,5),(0,6,6),(0,6,7),(0,6,8),(0,6,9),(0,5,10),(0,11,11),(0,11,12)]
@[go_sem] def arO:List (Nat×Nat):=aan [(0,4,4),(0,4,5),(0,4,6),(0,4,7)]
@[go_sem] def arP:List (Nat×Nat):=aan [(0,6,6),(0,6,7),(0,6,8),(0,6,9),(12,1,13),(13,1,14)]
@[go_sem] def arQ:List (Nat×Nat):=aan [(0,1,1),(0,1,2),(0,1,3),(0,1,4),(0,5,5),(0,6,6),(0,6,7),(0,6,8),(0,6,9),(0,10,10),(13,1,14),(14,1,15)]
@[go_sem] def arR:List (Nat×Nat):=aan [(0,7,7),(0,7,8),(0,7,9),(0,7,10),(0,11,11),(0,11,12),(0,11,13),(0,11,14),(0,11,15),(0,11,16),(0,11,17),(0,18,18),(0,18,19),(0,18,20),(0,18,21)]
@[go_sem] def arT:List (Nat×Nat):=aan [(0,7,7),(0,7,8),(0,7,9),(0,7,10)]
@[go_sem] def aA_:List (Nat×Nat):=aan [(0,4,4),(0,4,5),(0,4,6),(0,4,7)]
attribute [go_sem] results5
attribute [go_sem] ntmps5
theorem Rn{E:Ev}{A:List (List Int)}{s s':Sd}{i:Nat}(h:Laid E A s i s'):iT s.L s'.L:=by
 induction h with
 |zero=>exact iT.refl
 |succ h e ih=>
  refine ih.trans ?_;cases e with
  |has h=>exact iT.refl
  |none h k=>exact k.log
  | @laid s3 t h ht k=>
   refine k.log.trans ?_;have hl:∀ (s:Sd) (v key tt:Int) (m:Nat),iT s.L (s.E6 E v key tt m).L:=fun s v key tt m=>by
    induction m with
    |zero=>exact iT.refl
    |succ m ih=>exact ih.trans (iT.refl.acc.acc)
   have hw:∀ (s:Sd) (tt key val:Int),iT s.L (s.wr E 0 tt key val 1).L:=fun s tt key val=>iT.refl.acc.acc.acc;exact(hw s3 _ _ _).trans (hl _ _ _ _ _)
structure FS where
 th:Int
 v:Int
 key:Int
 ss:SS
def pvS(g k:Nat):Value:=if k=0 then .slice none 0 0 else .slice (some ⟨g,0,none⟩) k (aA+1)
theorem N22{g:Nat}:pvS g 0 = .slice none 0 0:=rfl
theorem N11{g k:Nat}(h:0<k):pvS g k = .slice (some ⟨g,0,none⟩) k (aA+1):=if_neg qJ
def N20(d:Rl→Nat)(t k:Nat):List Value:=(List.range k).map fun j=>pt (d (t,j))
theorem N21{d:Rl→Nat}{t k:Nat}:(N20 d t k).length=k:=by simp[N20]
theorem N12{d:Rl→Nat}{t k j:Nat}(h:j<k):(N20 d t k)[j]? = some (pt (d (t,j))):=by simp[N20,h]
theorem N14{d:Rl→Nat}{t k:Nat}:N20 d t (k+1)=N20 d t k++[pt (d (t,k))]:=by simp[N20,List.range_succ]
theorem N16{d d':Rl→Nat}{t k:Nat}(h:∀ j,j<k→d' (t,j)=d (t,j)):N20 d' t k=N20 d t k:=by
 unfold N20;refine List.map_congr_left fun j hj=>?_;rw[h j (List.mem_range.1 hj)]
structure N13(E:Ev)(mV bq n3:Nat)(kb:Nat)(s:Sd)(F:List FS)(d:Rl→Nat)(C:Rl→Option aj)(h:PT aj)(n:Nat):Prop where
 T:Tw E s s d C h n
 k:s.k≤kb
 log:iT [] s.L
 Mc:d (70,0)=mV
 Md:d qB=bq
 zi:d (230,0)=n3
 zj:C (230,0)=row [pt mV,pt bq]
 fs:∀ j x,F[j]? = some x→rN E x.ss∧(0≤x.th∧x.th<64)∧(0≤x.key∧x.key<18446744073709551616)∧C (231,j)=row (kV mV (d (231,j)) x.th x.key x.ss)∧C (232,j)=row (kW bq x.th x.v x.key x.ss)
 la:0<F.length→C (240,0)=row (N20 d 231 F.length)
 lb:0<F.length→C (241,0)=row (N20 d 232 F.length)
section
variable {E:Ev} {mV bq n3 kb:Nat} {s:Sd} {F:List FS} {d:Rl→Nat} {C:Rl→Option aj} {h:PT aj} {n:Nat}
theorem N13.keep(I:N13 E mV bq n3 kb s F d C h n){h':PT aj}{n':Nat}(k:Kept h h')(w:bQ h' n')(l:n≤n'):N13 E mV bq n3 kb s F d C h' n':=
 ⟨I.T.own (Nz.keep (X:=[]) (Y:=[]) I.T.st k w l) (by simp) (by simp),I.k,I.log,I.Mc,I.Md,I.zi,I.zj,I.fs,I.la,I.lb⟩
theorem N13.add(I:N13 E mV bq n3 kb s F d C h n){x:FS}{d1 d2 d3:Rl→Nat}{C1 C2 C3:Rl→Option aj}{h1 h2 h3:PT aj}{n1 n2 n4:Nat}(N1:Nz n d C [(231,F.length)] [(231,F.length)] d1 C1 h1 n1)(c1:C1 (231,F.length)=row (kV mV (d1 (231,F.length)) x.th x.key x.ss))
  (N2:Nz n1 d1 C1 [(232,F.length)] [(232,F.length)] d2 C2 h2 n2) (c2:C2 (232,F.length)=row (kW bq x.th x.v x.key x.ss)) (N3:Nz n2 d2 C2 [(240,0),(241,0)] [(240,0),(241,0)] d3 C3 h3 n4) (hx:rN E x.ss∧(0≤x.th∧x.th<64)∧(0≤x.key∧x.key<18446744073709551616))
  (la:C3 (240,0)=row (N20 d2 231 (F.length+1))) (lb:C3 (241,0)=row (N20 d2 232 (F.length+1))):N13 E mV bq n3 kb s (F++[x]) d3 C3 h3 n4:=by
 have o1:∀ r:Rl,r.1≠231→d1 r=d r∧C1 r=C r:=fun r hr=>⟨N1.dd r fun q=>hr (by rw[List.mem_singleton.1 q]),N1.cc r fun q=>hr (by rw[List.mem_singleton.1 q])⟩;have o2:∀ r:Rl,r.1≠232→d2 r=d1 r∧C2 r=C1 r:=fun r hr=>⟨N2.dd r fun q=>hr (by rw[List.mem_singleton.1 q]),N2.cc r fun q=>hr (by rw[List.mem_singleton.1 q])⟩;have o3:∀ r:Rl,r.1≠240→r.1≠241→d3 r=d2 r∧C3 r=C2 r:=fun r h1 h2=>⟨N3.dd r fun q=>by simp at q;rcases q with q |q<;>subst q<;>simp at h1 h2,N3.cc r fun q=>by simp at q;rcases q with q |q<;>subst q<;>simp at h1 h2⟩;have m:∀ r:Rl,r.1≠231→r.1≠232→r.1≠240→r.1≠241→d3 r=d r∧C3 r=C r:=fun r a1 a2 a3 a4=>⟨(o3 r a3 a4).1.trans ((o2 r a2).1.trans (o1 r a1).1),(o3 r a3 a4).2.trans ((o2 r a2).2.trans (o1 r a1).2)⟩;have T1:=I.T.own N1 (fun r hr=>by rw[List.mem_singleton.1 hr];exact CG ⟨by show 200≤231;decide,by show 231≤9000;decide⟩) (fun r hr=>by rw[List.mem_singleton.1 hr];exact CG ⟨by show 200≤231;decide,by show 231≤9000;decide⟩);have T2:=T1.own N2 (fun r hr=>by rw[List.mem_singleton.1 hr];exact CG ⟨by show 200≤232;decide,by show 232≤9000;decide⟩) (fun r hr=>by rw[List.mem_singleton.1 hr];exact CG ⟨by show 200≤232;decide,by show 232≤9000;decide⟩);have T3:=T2.own N3 qi qi;have hlen:(F++[x]).length=F.length+1:=by simp
 refine⟨T3,I.k,I.log,(m (70,0) qi qi qi qi).1.trans I.Mc,(m qB qi qi qi qi).1.trans I.Md,(m (230,0) qi qi qi qi).1.trans I.zi,(m (230,0) qi qi qi qi).2.trans I.zj,fun j y hy=>?_,fun _=>?_,fun _=>?_⟩
 ·have p1:=o3 (231,j) (by show (231:Nat)≠240;decide) (by show (231:Nat)≠241;decide);have p2:=o3 (232,j) (by show (232:Nat)≠240;decide) (by show (232:Nat)≠241;decide);have q1:=o2 (231,j) (by show (231:Nat)≠232;decide);have q2:=o1 (232,j) (by show (232:Nat)≠231;decide)
  rcases Nat.lt_trichotomy j F.length with hj |hj |hj
  ·rw[List.getElem?_append_left hj] at hy;obtain⟨a1,a2,a3,a4,a5⟩:=I.fs j y hy;have z1:((231,j):Rl)∉[((231:Nat),F.length)]:=fun q=>by have:=congrArg Prod.snd (List.mem_singleton.1 q);simp only at this;omega
   have z2:((232,j):Rl)∉[((232:Nat),F.length)]:=fun q=>by have:=congrArg Prod.snd (List.mem_singleton.1 q);simp only at this;omega
   refine⟨a1,a2,a3,?_,?_⟩
   ·rw[p1.2,q1.2,N1.cc _ z1,a4,p1.1,q1.1,N1.dd _ z1]
   ·rw[p2.2,N2.cc _ z2,q2.2,a5]
  ·subst hj;rw[List.getElem?_append_right (Nat.le_refl _),Nat.sub_self] at hy;simp only[List.getElem?_cons_zero,Option.some.injEq] at hy;subst hy;refine⟨hx.1,hx.2.1,hx.2.2,?_,?_⟩
   ·rw[p1.2,q1.2,c1,p1.1,q1.1]
   ·rw[p2.2,c2]
  ·rw[List.getElem?_append_right qJ] at hy;have:1≤j-F.length:=by omega
   obtain⟨q,hq⟩:∃ q,j-F.length=q+1:=⟨j-F.length-1,by omega⟩;rw[hq] at hy;simp at hy
 ·rw[hlen,la,N16 fun j _=>(o3 (231,j) (by show (231:Nat)≠240;decide) (by show (231:Nat)≠241;decide)).1]
 ·rw[hlen,lb,N16 fun j _=>(o3 (232,j) (by show (232:Nat)≠240;decide) (by show (232:Nat)≠241;decide)).1]
theorem N13.step(I:N13 E mV bq n3 kb s F d C h n){j:Nat}{x:FS}(hj:F[j]? = some x){ss':SS}{s':Sd}{d1 d2:Rl→Nat}{C1 C2:Rl→Option aj}{h1 h2:PT aj}{n1 n2:Nat}(hss:rN E ss')(hk:s'.k≤s.k+1)(hl:iT s.L s'.L)
  (N1:Nz n d C ((231,j)::mA) [(2,0)] d1 C1 h1 n1) (c1:C1 (231,j)=row (kV mV (d (231,j)) x.th x.key ss')) (N2:Nz n1 d1 C1 ((232,j)::mB) [(103,0)] d2 C2 h2 n2) (c2:C2 (232,j)=row (kW bq x.th x.v x.key ss')) (T':Tw E s' s' d2 C2 h2 n2):N13 E mV bq n3 (kb+1) s' (F.set j ⟨x.th,x.v,x.key,ss'⟩) d2 C2 h2 n2:=by
 have RT:=I.k;have m1:∀ r:Rl,200≤r.1→d2 r=d r:=fun r hr=>(N2.dd r fun q=>by rw[List.mem_singleton.1 q] at hr;simp at hr).trans (N1.dd r fun q=>by rw[List.mem_singleton.1 q] at hr;simp at hr);have m2:∀ r:Rl,200≤r.1→r≠(231,j)→r≠(232,j)→C2 r=C r:=fun r hr ha hb=>(N2.cc r fun q=>by
  rcases List.mem_cons.1 q with q |q
  ·exact hb q
  ·have:=QO q;omega).trans (N1.cc r fun q=>by
  rcases List.mem_cons.1 q with q |q
  ·exact ha q
  ·have:=QL q;omega)
 have hlen:(F.set j ⟨x.th,x.v,x.key,ss'⟩).length=F.length:=List.length_set;have hjl:j<F.length:=by
  rcases Nat.lt_or_ge j F.length with q |q
  ·exact q
  ·rw[List.getElem?_eq_none q] at hj;simp at hj
 refine⟨T',by omega,I.log.trans hl,(N2.dd (70,0) qi).trans ((N1.dd (70,0) qi).trans I.Mc),(N2.dd qB qi).trans ((N1.dd qB qi).trans I.Md),(m1 (230,0) qi).trans I.zi,(m2 (230,0) qi (by simp) (by simp)).trans I.zj,fun i y hy=>?_,fun hp=>?_,fun hp=>?_⟩
 ·by_cases e:i=j
  ·subst e;rw[List.getElem?_set_self hjl] at hy;obtain rfl:=Option.some.inj hy;obtain⟨a1,a2,a3,-,-⟩:=I.fs i x hj;have z1:((231,i):Rl)∉((232,i)::mB):=fun q=>by
    rcases List.mem_cons.1 q with q |q
    ·exact absurd (congrArg Prod.fst q) (by show ¬(231:Nat)=232;decide)
    ·have:=QO q;simp at this
   refine⟨hss,a2,a3,?_,c2⟩;rw[N2.cc _ z1,c1,m1 (231,i) (by show 200≤231;decide)]
  ·rw[List.getElem?_set_ne fun q=>e q.symm] at hy;obtain⟨a1,a2,a3,a4,a5⟩:=I.fs i y hy;refine⟨a1,a2,a3,?_,?_⟩
   ·rw[m2 (231,i) (by show 200≤231;decide) (fun q=>e (congrArg Prod.snd q)) (fun q=>absurd (congrArg Prod.fst q) (by show ¬(231:Nat)=232;decide)),a4,m1 (231,i) (by show 200≤231;decide)]
   ·rw[m2 (232,i) (by show 200≤232;decide) (fun q=>absurd (congrArg Prod.fst q) (by show ¬(232:Nat)=231;decide)) (fun q=>e (congrArg Prod.snd q)),a5]
 ·rw[hlen] at hp ⊢;rw[m2 (240,0) qi (by simp) (by simp),I.la hp,N16 fun j _=>m1 (231,j) (by show 200≤231;decide)]
 ·rw[hlen] at hp ⊢;rw[m2 (241,0) qi (by simp) (by simp),I.lb hp,N16 fun j _=>m1 (232,j) (by show 200≤232;decide)]
end
end Go.Proofs.YtofmbmclopgldaaGreat
namespace Go.Proofs.YtofmbmclopgldaaGreat
open Go.Am Go.Proofs.Tryz
abbrev ksS:List Ck:=[.int .i64,.int .i64,.int .u64]
theorem apC{A:List (List Int)}(hA:kO ksS A){i:Nat}(hi:i<A.length):
  (gj ksS A)[i*3]? = some (I6 (pA A i))∧(gj ksS A)[i*3+1]? = some (I6 (pD A i))∧(gj ksS A)[i*3+2]? = some (U6 (pV A i))∧(0≤pV A i∧pV A i<18446744073709551616):=agH hA hi
theorem aA'{A:List (List Int)}(hA:kO [.int .i64] A){i:Nat}(hi:i<A.length):(gj [.int .i64] A)[i]? = some (I6 (pA A i)):=by
 have hx:A[i]? = some A[i]:=List.getElem?_eq_getElem hi;have h0:=jC hA hx 0 qi;obtain⟨e,w⟩:=hA A[i] (List.getElem_mem hi);unfold pA;rw[show A.getD i []=A[i] by simp[List.getD,hx]];generalize A[i]=r at*
 match r,e with
 | [a],_=>
  have h1:(gj [.int .i64] A)[i]? = (vW [.int .i64] [a])[0]? := by simpa using h0
  exact h1.trans rfl
section
variable {h:PT aj} {n:Nat}
theorem N23(hW:bQ h n){th sl en bu kd dn t0 t1 t2 t3 t4 t5 lo tr ba:Int}{s:Value}{xs:List Int}(hs:aN .u64 h s xs)(hps:∀ x∈xs,0≤x∧x<18446744073709551616)(hl:xs.length<1000000000000000)(vC:0≤kd∧kd<256)(LN:0≤en∧en<256)
  {u1 u2 u3:Value} {A1 A2 A3:List (List Int)} {p1 p2 p3:Nat} (Zw:o9 ksL h p1 u1 A1) (hA2:o9 ksS h p2 u2 A2) (hA3:o9 [.int .i64] h p3 u3 A3):
  cE prog OB 5 [.agg ⟨[I6 th,I6 sl,U8 en,I6 bu,U8 kd,I6 dn,s,I6 t0,I6 t1,I6 t2,I6 t3,I6 t4,I6 t5,I6 lo,I6 tr,I6 ba]⟩,u1,u2,u3] h n fun v h' n'=>v = .bool true:=by
 obtain⟨sa,sc,rfl,-⟩:=hs.len;obtain⟨a1,c1,rfl⟩:∃ a c,u1 = .slice a A1.length c:=by
  rcases Zw.2 with ⟨rfl,rfl⟩ | ⟨cp,rfl,-⟩
  ·exact⟨none,0,rfl⟩
  ·exact⟨_,_,rfl⟩
 obtain⟨a2,c2,rfl,hx2⟩:∃ a c,u2 = .slice a A2.length c∧(0<A2.length→a=some ⟨p2,0,none⟩∧h.get p2=some (.cells (PT.ofList .leaf 0 (gj ksS A2)) true)):=by
  rcases hA2.2 with ⟨rfl,rfl⟩ | ⟨cp,rfl,-,-,g⟩
  ·exact⟨none,0,rfl,fun q=>absurd q (by simp)⟩
  ·exact⟨_,_,rfl,fun _=>⟨rfl,g⟩⟩
 obtain⟨a3,c3,rfl,hx3⟩:∃ a c,u3 = .slice a A3.length c∧(0<A3.length→a=some ⟨p3,0,none⟩∧h.get p3=some (.cells (PT.ofList .leaf 0 (gj [.int .i64] A3)) true)):=by
  rcases hA3.2 with ⟨rfl,rfl⟩ | ⟨cp,rfl,-,-,g⟩
  ·exact⟨none,0,rfl,fun q=>absurd q (by simp)⟩
  ·exact⟨_,_,rfl,fun _=>⟨rfl,g⟩⟩
 refine ay (N:=170) func5 rfl rfl fun z hP hO hro hN hQ=>?_
 repeat' first|simp(disch:=try exact yj) only[go_sem, *] | (apply xs<;>intro _)<;>try omega
 generalize Hy:h.set n _=h1;have W1:bQ h1 (n+1):=by
  rw[←Hy]
  (repeat refine bQ.set' qJ ?_);first|assumption|exact bQ.mono (by assumption) qJ
 have K1:Kept h h1:=by
  rw[←Hy]
  repeat refine Kept.set' hW qJ ?_
  exact Kept.refl _
 clear Hy
 repeat' first|simp(disch:=try exact yj) only[go_sem, *] | (apply xs<;>intro _)<;>try omega
 refine jg (VA (St.all W1) (Fz.all W1) (Nat.le_refl _) (hs.keep K1) hps hl vC LN) ?_;rintro v h2 n2 ⟨d2,C2,th',sl',en',bu',kd',dn',t0',t1',t2',t3',t4',t5',lo',tr',ba',s2,uC,rfl,sm,tM,N2⟩;have K2:=(N2.fz _ _ (Nat.le_refl _) (Fz.all W1)).kept N2.st;have W2:=N2.st.wf;have l2:=N2.le;have K02:=K1.trans K2;clear N2 K1 K2 W1 hs;obtain⟨sa2,sc2,rfl,-⟩:=tM.len
 repeat' first|simp(disch:=try exact yj) only[go_sem, *] | (apply xs<;>intro _)<;>try omega
 refine jg (aaG W2 tM sm) ?_;rintro v h3 n3 ⟨E,d3,C3,rfl,K3,hn3,T3,hPO,hV5⟩;have KE:=K02.trans K3;clear K02 K3 W2 tM sm
 repeat' first|simp(disch:=try exact yj) only[go_sem, *] | (apply xs<;>intro _)<;>try omega
 rw[PT.set_set];obtain⟨d4,C4,N4,zi,zj⟩:∃ d4 C4,Nz n3 d3 C3 [(230,0)] [(230,0)] d4 C4 (h3.set n3 (row [pt (d3 (70,0)),pt (d3 qB)])) (n3+1)∧d4 (230,0)=n3∧C4 (230,0)=row [pt (d3 (70,0)),pt (d3 qB)]:=
  ⟨_,_,Nz.new qi (Nat.le_refl _) (Nat.le_succ _) (T3.st.new (230,0) _ (Nat.le_refl _) (Nat.lt_succ_self _)),aq,aq⟩
 have T4:=T3.own N4 qi qi;have ly:=Vn T4 (by show (0:Nat)≤1000;omega) (Zw.keep KE);have Mc:=N4.dd (70,0) qi;have Md:=N4.dd qB qi;unfold two at ly;rw[Mc,Md] at ly;generalize h3.set n3 _=h4 at*;refine jg (ly) ?_;rintro v h5 n5 ⟨rfl,s5,d5,C5,hL5,hk5,T5,M5⟩;have aaI:=Rn hL5;have aHQ:s5.k≤720:=by have:(Sd.yL E).k=0:=rfl;omega
 have aaJ:=M5.own (230,0) qi qi;have I0:N13 E (d3 (70,0)) (d3 qB) n3 720 s5 [] d5 C5 h5 n5:=⟨T5,aHQ,aaI,M5.a.trans Mc,M5.b.trans Md,aaJ.1.trans zi,aaJ.2.trans zj,fun j x q=>by simp at q,fun q=>absurd q (by simp),fun q=>absurd q (by simp)⟩;clear ly hL5 M5 aaJ hk5 T3 T4 N4 zi zj Mc Md T5 aaI aHQ;generalize d3 (70,0)=mV at*;generalize d3 qB=bq at*
 repeat' first|simp(disch:=try exact yj) only[go_sem, *,cJ,cG,cH,cI,Bool.not_true,Bool.not_false] | (apply xs<;>intro _)<;>try omega
 refine a_ (fun t m h' n'=>∃ (F:List FS) (d':Rl→Nat) (C':Rl→Option aj),F.length≤A2.length∧F.length≤6∧t=6-F.length∧m.n=170∧m.fF=[]∧m.get 2 = .slice a2 A2.length c2∧m.get 3 = .slice a3 A3.length c3∧m.get 9=pt n3∧m.get 11=pvS (d' (240,0)) F.length∧m.get 12=pvS (d' (241,0)) F.length∧m.get 13=I6 F.length∧N13 E mV bq n3 720 s5 F d' C' h' n') 6 ?_ ?_
 ·refine⟨[],d5,C5,by simp,by simp,rfl,?_⟩;have p1:pvS (d5 (240,0)) ([]:List FS).length = .slice none 0 0:=rfl;have p2:pvS (d5 (241,0)) ([]:List FS).length = .slice none 0 0:=rfl;rw[p1,p2];simp(disch:=try exact yj) only[go_sem, *]
  first|exact⟨rfl,I0⟩ |exact I0|rfl |trace_state
 ·clear I0;rintro t m h' n' ih ⟨F,d8,C8,hFA,hF6,rfl,m1,m2,m3,m4,m5,m6,m7,m8,I⟩;have pT:=I.T.st.at I.zj;rw[I.zi] at pT;generalize hi:F.length=i at*;by_cases hlt:i<A2.length∧i<6
  ·have e7:(i:Int)<A2.length:=by omega
   have e8:(i:Int)<6:=by omega
   have PG:(i:Int)+1=((i+1:Nat):Int):=by omega
   obtain⟨rfl,gA⟩:=hx2 qJ;have gA8:=(I.T.fz.kept I.T.st) _ _ (KE _ _ gA);obtain⟨v0,v1,v2,v3⟩:=apC hA2.1 hlt.1;have hdl:=I.T.dom;rw[I.Md] at hdl;have JN:=fun z L f d ops r K m n lo rd wr fs=>@eT _ _ _ _ _ hdl z L f d ops r K m n lo rd wr fs (fun _ _ q=>q);have Xl:=I.T.ok.dom;have hcn:=I.T.ok.cnt.symm;have hV1:=I.T.ok.num.V1;have hV2:=I.T.ok.num.V2;have hV3:E.V≤100000:=by omega
   obtain⟨o1,o2⟩:=@cZ (pA A2 i) 10;obtain⟨o3,o4⟩:=@cZ (pD A2 i) E.V;have o2:=o2 qi;have o4:=o4 qJ;generalize gj ksS A2=ra at*;generalize pA A2 i=xa at*;generalize pD A2 i=xd at*;generalize pV A2 i=xk at*
   repeat' first|simp(disch:=try exact yj) only[go_sem, *,jT,sW,cJ,cG,cH,cI,Bool.not_true,Bool.not_false] | (apply xs<;>intro _)<;>try omega | ((with_reducible refine b8 9 ?_);refine dw 170 9 N19 (by first | (simp only[go_sem, *];done)|rfl) (by kernel_rfl) (by kernel_rfl) ?_) | ((with_reducible refine b8 10 ?_);refine dw 170 10 N25 (by first | (simp only[go_sem, *];done)|rfl) (by kernel_rfl) (by kernel_rfl) ?_) | ((with_reducible refine b8 11 ?_);refine dw 170 11 N24 (by first | (simp only[go_sem, *];done)|rfl) (by kernel_rfl) (by kernel_rfl) ?_) | ((with_reducible refine b8 21 ?_);refine dw 170 21 N17 (by first | (simp only[go_sem, *];done)|rfl) (by kernel_rfl) (by kernel_rfl) ?_)
   have hth:0≤6*bh xa 10+(i:Int)∧6*bh xa 10+(i:Int)<64:=by omega
   have Kr:0≤bh xd E.V∧bh xd E.V<E.V:=⟨o3,o4⟩;have zn:200≤((231,i):Rl).1∧((231,i):Rl).1≤9000:=⟨by show 200≤231;decide,by show 231≤9000;decide⟩;have mT:200≤((232,i):Rl).1∧((232,i):Rl).1≤9000:=⟨by show 200≤232;decide,by show 232≤9000;decide⟩;have an:=ahm I.T (231,i) zn (th:=6*bh xa 10+(i:Int)) (v:=bh xd E.V) (key:=xk) qJ;rw[I.Mc] at an;clear JN hdl;refine jg (an) ?_;rintro y h9 n9 (⟨hno,-⟩ | ⟨-,d9,C9,rfl,N9,c9⟩)
   ·exact absurd ⟨hth,Kr⟩ hno
   intro Sc Se;clear an;have ns1:∀ r:Rl,r.1≠231→r∉[((231:Nat),i)]:=fun r hr q=>hr (by rw[List.mem_singleton.1 q]);have ns2:∀ r:Rl,r.1≠232→r∉[((232:Nat),i)]:=fun r hr q=>hr (by rw[List.mem_singleton.1 q]);have T9:=I.T.own N9 (fun r hr=>by rw[List.mem_singleton.1 hr];exact CG zn) (fun r hr=>by rw[List.mem_singleton.1 hr];exact CG zn);have N15:=T9.st.at ((N9.cc (230,0) (ns1 _ qi)).trans I.zj);rw[(N9.dd (230,0) (ns1 _ qi)).trans I.zi] at N15;have gA9:=(T9.fz.kept T9.st) _ _ (KE _ _ gA);have bn:=XE T9 (232,i) mT (th:=6*bh xa 10+(i:Int)) (v:=bh xd E.V) (key:=xk) qJ;rw[(N9.dd qB (ns1 _ qi)).trans I.Md] at bn;clear pT gA8
   repeat' first|simp(disch:=try exact yj) only[go_sem, *,cJ,cG,cH,cI,Bool.not_true,Bool.not_false] | (apply xs<;>intro _)<;>try omega | ((with_reducible refine b8 9 ?_);refine dw 170 9 N19 (by first | (simp only[go_sem, *];done)|rfl) (by kernel_rfl) (by kernel_rfl) ?_) | ((with_reducible refine b8 10 ?_);refine dw 170 10 N25 (by first | (simp only[go_sem, *];done)|rfl) (by kernel_rfl) (by kernel_rfl) ?_) | ((with_reducible refine b8 11 ?_);refine dw 170 11 N24 (by first | (simp only[go_sem, *];done)|rfl) (by kernel_rfl) (by kernel_rfl) ?_) | ((with_reducible refine b8 21 ?_);refine dw 170 21 N17 (by first | (simp only[go_sem, *];done)|rfl) (by kernel_rfl) (by kernel_rfl) ?_)
   refine jg (bn) ?_;rintro y h10 n10 (⟨hno,-⟩ | ⟨-,d10,C10,rfl,N10,RV⟩)
   ·exact absurd ⟨hth,Kr⟩ hno
   intro Sc Se;clear bn N15 gA9;have T10:=T9.own N10 (fun r hr=>by rw[List.mem_singleton.1 hr];exact CG mT) (fun r hr=>by rw[List.mem_singleton.1 hr];exact CG mT);have zk:d10 (231,i)=d9 (231,i):=N10.dd _ (ns2 _ (by show (231:Nat)≠232;decide));have N18:∀ t,t≠231→t≠232→d10 (t,0)=d8 (t,0)∧C10 (t,0)=C8 (t,0):=fun t h1 h2=>⟨(N10.dd _ (ns2 _ h2)).trans (N9.dd _ (ns1 _ h1)),(N10.cc _ (ns2 _ h2)).trans (N9.cc _ (ns1 _ h1))⟩;have apD:=rN.new (E:=E) Kr;rw[←zk];clear zk;generalize hfa:d10 (231,i)=fa at*;generalize hfb:d10 (232,i)=fb at*
   rcases Nat.eq_zero_or_pos i with JL |JL
   ·subst JL;obtain rfl:=List.length_eq_zero_iff.1 hi;have p6:m.get 11 = .slice none 0 0:=m6;have p7:m.get 12 = .slice none 0 0:=m7;clear m6 m7
    repeat' first|simp(disch:=try exact yj) only[go_sem, *,cJ,cG,cH,cI,Bool.not_true,Bool.not_false] | (apply xs<;>intro _)<;>try omega | ((with_reducible refine b8 9 ?_);refine dw 170 9 N19 (by first | (simp only[go_sem, *];done)|rfl) (by kernel_rfl) (by kernel_rfl) ?_) | ((with_reducible refine b8 10 ?_);refine dw 170 10 N25 (by first | (simp only[go_sem, *];done)|rfl) (by kernel_rfl) (by kernel_rfl) ?_) | ((with_reducible refine b8 11 ?_);refine dw 170 11 N24 (by first | (simp only[go_sem, *];done)|rfl) (by kernel_rfl) (by kernel_rfl) ?_) | ((with_reducible refine b8 21 ?_);refine dw 170 21 N17 (by first | (simp only[go_sem, *];done)|rfl) (by kernel_rfl) (by kernel_rfl) ?_)
    have Vx:Nz n10 d10 C10 [(240,0),(241,0)] [(240,0),(241,0)] (upd (upd d10 (240,0) (n10+1)) (241,0) (n10+1+1+1)) (upd (upd C10 (240,0) (row [pt fa])) (241,0) (row [pt fb])) ((((h10.set n10 (row [pt fa])).set (n10+1) (row [pt fa])).set (n10+1+1) (row [pt fb])).set (n10+1+1+1) (row [pt fb])) (n10+1+1+1+1):=
     ⟨by omega,(((T10.st.junk (Nat.le_refl _) (Nat.lt_succ_self _)).new (240,0) _ (Nat.le_refl _) (Nat.lt_succ_self _)).junk (Nat.le_refl _) (Nat.lt_succ_self _)).new (241,0) _ (Nat.le_refl _) (Nat.lt_succ_self _),fun h1 n1 q F=>(F.new (a:=240) (b:=0) qi qJ _).new (a:=241) (b:=0) qi qJ _,fun r hr=>by
      simp only[List.mem_cons,List.not_mem_nil,or_false,not_or] at hr;rw[bB hr.2,bB hr.1],fun r hr=>by
      simp only[List.mem_cons,List.not_mem_nil,or_false,not_or] at hr;rw[bB hr.2,bB hr.1]⟩
    have I11:=I.add (x:=⟨6*bh xa 10+((0:Nat):Int),bh xd E.V,xk,SS.new (bh xd E.V)⟩) N9 c9 N10 RV Vx ⟨apD,hth,v3⟩ ((au qi).trans (by rw[aq];show _=row [pt (d10 (231,0))];rw[hfa])) (by rw[aq];show _=row [pt (d10 (232,0))];rw[hfb]);obtain⟨dX,CX,hX,eX,IX,eX1,eX2⟩:∃ d' C' h',h'=(((h10.set n10 (row [pt fa])).set (n10+1) (row [pt fa])).set (n10+1+1) (row [pt fb])).set (n10+1+1+1) (row [pt fb])∧N13 E mV bq n3 720 s5 [⟨6*bh xa 10+((0:Nat):Int),bh xd E.V,xk,SS.new (bh xd E.V)⟩] d' C' h' (n10+1+1+1+1)∧d' (240,0)=n10+1∧d' (241,0)=n10+1+1+1:=
     ⟨_,_,_,rfl,I11,(au qi).trans aq,aq⟩
    clear I11 Vx;rw[←eX];clear eX;generalize (⟨6*bh xa 10+((0:Nat):Int),bh xd E.V,xk,SS.new (bh xd E.V)⟩:FS)=fx at*;have p6:pvS (dX (240,0)) [fx].length = .slice (some ⟨n10+1,0,none⟩) 1 (aA+1):=by rw[eX1];rfl
    have p7:pvS (dX (241,0)) [fx].length = .slice (some ⟨n10+1+1+1,0,none⟩) 1 (aA+1):=by rw[eX2];rfl
    refine ih (6-1) _ _ _ qJ ⟨[fx],dX,CX,by simp only[List.length_cons,List.length_nil];omega,by simp,by simp,?_⟩;rw[p6,p7];clear ih eX1 eX2;simp(disch:=try exact yj) only[go_sem, *,List.length_cons,List.length_nil]
    first|exact⟨rfl,IX⟩ |exact IX|rfl |trace_state
   ·rw[N11 JL] at m6 m7;subst hi;have b4:=(N18 240 qi qi).2.trans (I.la JL);have b5:=(N18 241 qi qi).2.trans (I.lb JL);have q1:N20 d10 231 F.length=N20 d8 231 F.length:=N16 fun j hj=>by
     have z:((231,j):Rl)∉[((231:Nat),F.length)]:=fun q=>by have:=congrArg Prod.snd (List.mem_singleton.1 q);simp only at this;omega
     exact(N10.dd _ (ns2 _ (by show (231:Nat)≠232;decide))).trans (N9.dd _ z)
    have q2:N20 d10 232 F.length=N20 d8 232 F.length:=N16 fun j hj=>by
     have z:((232,j):Rl)∉[((232:Nat),F.length)]:=fun q=>by have:=congrArg Prod.snd (List.mem_singleton.1 q);simp only at this;omega
     exact(N10.dd _ z).trans (N9.dd _ (ns1 _ (by show (232:Nat)≠231;decide)))
    have e1:N20 d10 231 (F.length+1)=N20 d8 231 F.length++[pt fa]:=by rw[N14,q1,hfa]
    have e2:N20 d10 232 (F.length+1)=N20 d8 232 F.length++[pt fb]:=by rw[N14,q2,hfb]
    have l1:(N20 d8 231 F.length).length=F.length:=N21;have l2:(N20 d8 232 F.length).length=F.length:=N21;have y1:=T10.st.df b4 b5 qi;rw[(N18 240 qi qi).1,(N18 241 qi qi).1] at y1;have g4:=T10.st.at b4;rw[(N18 240 qi qi).1] at g4;have g5:=T10.st.at b5;rw[(N18 241 qi qi).1] at g5;have n4:=T10.st.wf.lt g4;have n5':=T10.st.wf.lt g5;generalize N20 d8 231 F.length=La at*;generalize N20 d8 232 F.length=Lb at*;clear q1 q2;have hT1:La.take F.length=La:=List.take_of_length_le qJ;have hT2:Lb.take F.length=Lb:=List.take_of_length_le qJ
    repeat' first|simp(disch:=try exact yj) only[go_sem, *,cJ,cG,cH,cI,Bool.not_true,Bool.not_false] | (apply xs<;>intro _)<;>try omega | ((with_reducible refine b8 9 ?_);refine dw 170 9 N19 (by first | (simp only[go_sem, *];done)|rfl) (by kernel_rfl) (by kernel_rfl) ?_) | ((with_reducible refine b8 10 ?_);refine dw 170 10 N25 (by first | (simp only[go_sem, *];done)|rfl) (by kernel_rfl) (by kernel_rfl) ?_) | ((with_reducible refine b8 11 ?_);refine dw 170 11 N24 (by first | (simp only[go_sem, *];done)|rfl) (by kernel_rfl) (by kernel_rfl) ?_) | ((with_reducible refine b8 21 ?_);refine dw 170 21 N17 (by first | (simp only[go_sem, *];done)|rfl) (by kernel_rfl) (by kernel_rfl) ?_)
    have S0:=T10.st.junk (B:=row [pt fa]) (Nat.le_refl _) (Nat.lt_succ_self _);have S1:=S0.kill (240,0) b4 (N18 240 qi qi).1;have S2:=S1.new (240,0) (.cells (PT.ofList .leaf 0 (La++[pt fa])) false) (Nat.le_refl _) (Nat.lt_succ_self _);have S3:=S2.junk (B:=row [pt fb]) (Nat.le_refl _) (Nat.lt_succ_self _);have S4:=S3.kill (241,0) (A := .cells (PT.ofList .leaf 0 Lb) false) ((au qi).trans ((au qi).trans b5)) ((au qi).trans (N18 241 qi qi).1);have S5:=S4.new (241,0) (.cells (PT.ofList .leaf 0 (Lb++[pt fb])) false) (Nat.le_refl _) (Nat.lt_succ_self _);have Vx:Nz n10 d10 C10 [(240,0),(241,0)] [(240,0),(241,0)] (upd (upd d10 (240,0) (n10+1)) (241,0) (n10+1+1+1)) (upd (upd (upd (upd C10 (240,0) none) (240,0) (row (La++[pt fa]))) (241,0) none) (241,0) (row (Lb++[pt fb]))) _ (n10+1+1+1+1):=
     ⟨by omega,S5,fun h1 n1 q F=>(((F.set (a:=240) (b:=0) qi b4 none).new (a:=240) (b:=0) qi qJ _).set (a:=241) (b:=0) (A := .cells (PT.ofList .leaf 0 Lb) false) qi ((au qi).trans ((au qi).trans b5)) none).new (a:=241) (b:=0) qi qJ _,fun r hr=>by
      simp only[List.mem_cons,List.not_mem_nil,or_false,not_or] at hr;rw[bB hr.2,bB hr.2,bB hr.1,bB hr.1],fun r hr=>by
      simp only[List.mem_cons,List.not_mem_nil,or_false,not_or] at hr;rw[bB hr.2,bB hr.1]⟩
    have I11:=I.add (x:=⟨6*bh xa 10+(F.length:Int),bh xd E.V,xk,SS.new (bh xd E.V)⟩) N9 c9 N10 RV Vx ⟨apD,hth,v3⟩ ((au qi).trans ((au qi).trans (by rw[aq,e1]))) (by rw[aq,e2]);obtain⟨dX,CX,hX,eX,IX,eX1,eX2⟩:∃ d' C' h',h'=(((((h10.set n10 (row [pt fa])).set (d8 (240,0)) none).set (n10+1) (row (La++[pt fa]))).set (n10+1+1) (row [pt fb])).set (d8 (241,0)) none).set (n10+1+1+1) (row (Lb++[pt fb]))∧N13 E mV bq n3 720 s5 (F++[⟨6*bh xa 10+(F.length:Int),bh xd E.V,xk,SS.new (bh xd E.V)⟩]) d' C' h' (n10+1+1+1+1)∧d' (240,0)=n10+1∧d' (241,0)=n10+1+1+1:=
     ⟨_,_,_,rfl,I11,(au qi).trans aq,aq⟩
    clear I11 Vx S0 S1 S2 S3 S4 S5;rw[←eX];clear eX;generalize (⟨6*bh xa 10+(F.length:Int),bh xd E.V,xk,SS.new (bh xd E.V)⟩:FS)=fx at*;have lF:(F++[fx]).length=F.length+1:=by simp
    have p6:pvS (dX (240,0)) (F++[fx]).length = .slice (some ⟨n10+1,0,none⟩) (F.length+1:Nat) (aA+1):=by rw[eX1,lF];rfl
    have p7:pvS (dX (241,0)) (F++[fx]).length = .slice (some ⟨n10+1+1+1,0,none⟩) (F.length+1:Nat) (aA+1):=by rw[eX2,lF];rfl
    refine ih (6-(F.length+1)) _ _ _ qJ ⟨F++[fx],dX,CX,by rw[lF];omega,by rw[lF];omega,by rw[lF],?_⟩;rw[p6,p7];clear ih eX1 eX2 p6 p7;rw[lF];simp(disch:=try exact yj) only[go_sem, *]
    first|exact⟨rfl,IX⟩ |exact IX|rfl |trace_state
  ·have hX: ¬ (i:Int)<A2.length∨((i:Int)<A2.length∧ ¬(i:Int)<6):=by omega
   clear ih;subst hi
   rcases hX with e7 | ⟨e6,e7⟩
   all_goals
    repeat' first|simp(disch:=try exact yj) only[go_sem, *,cJ,cG,cH,cI,Bool.not_true,Bool.not_false] | (apply xs<;>intro _)<;>try omega | ((with_reducible refine b8 9 ?_);refine dw 170 9 N19 (by first | (simp only[go_sem, *];done)|rfl) (by kernel_rfl) (by kernel_rfl) ?_) | ((with_reducible refine b8 10 ?_);refine dw 170 10 N25 (by first | (simp only[go_sem, *];done)|rfl) (by kernel_rfl) (by kernel_rfl) ?_) | ((with_reducible refine b8 11 ?_);refine dw 170 11 N24 (by first | (simp only[go_sem, *];done)|rfl) (by kernel_rfl) (by kernel_rfl) ?_) | ((with_reducible refine b8 21 ?_);refine dw 170 21 N17 (by first | (simp only[go_sem, *];done)|rfl) (by kernel_rfl) (by kernel_rfl) ?_)
    clear pT;refine a_ (fun t m' h' n'=>∃ (j:Nat) (s6:Sd) (F':List FS) (d':Rl→Nat) (C':Rl→Option aj),j≤200∧t=200-j∧F'.length=F.length∧m'.n=170∧m'.fF=[]∧m'.get 3 = .slice a3 A3.length c3∧m'.get 9=pt n3∧m'.get 11=pvS (d' (240,0)) F.length∧m'.get 12=pvS (d' (241,0)) F.length∧m'.get 20=I6 j∧N13 E mV bq n3 (720+j) s6 F' d' C' h' n') 200 ?_ ?_
    ·refine⟨0,s5,F,d8,C8,by omega,rfl,rfl,?_⟩;simp(disch:=try exact yj) only[go_sem, *]
     first|exact⟨rfl,I⟩ |exact I |trace_state
    ·clear I;rintro t m' h' n' ih ⟨j,s6,F',d9,C9,hj,rfl,hF',p1,p2,p3,p4,p5,p6,p7,I⟩;have hki:=I.k;clear m1 m2 m3 m4 m5 m6 m7 m8;have hE7:=Hid.mk e7;clear e7;have pT:=I.T.st.at I.zj;rw[I.zi] at pT;by_cases hlt:(j<A3.length∧j<200)∧0<F.length
     ·obtain⟨⟨h1,h2⟩,h3⟩:=hlt;have e7:(j:Int)<A3.length:=by omega
      have e8:(j:Int)<200:=by omega
      have e9:(0:Int)<F.length:=by omega
      have e10:(F.length:Int)≤100000:=by omega
      have PG:(j:Int)+1=((j+1:Nat):Int):=by omega
      obtain⟨rfl,gA⟩:=hx3 qJ;have gA9:=(I.T.fz.kept I.T.st) _ _ (KE _ _ gA);have v0:=aA' hA3.1 h1;rw[N11 h3] at p5 p6;have g4:=I.T.st.at (I.la qJ);have g5:=I.T.st.at (I.lb qJ);rw[hF'] at g4 g5;obtain⟨k,hk,hkF⟩:∃ k:Nat,bh (pA A3 j) (F.length:Int)=(k:Int)∧k<F.length:=by
       obtain⟨o1,o2⟩:=@cZ (pA A3 j) (F.length:Int);have o2:=o2 qJ;exact⟨(bh (pA A3 j) (F.length:Int)).toNat,by omega,by omega⟩
      have q1:(N20 d9 231 F.length)[k]? = some (pt (d9 (231,k))):=N12 hkF;have q2:(N20 d9 232 F.length)[k]? = some (pt (d9 (232,k))):=N12 hkF;obtain⟨x,hx⟩:∃ x,F'[k]? = some x:=⟨_,List.getElem?_eq_getElem qJ⟩;obtain⟨a1,a2',a3',a4,a5⟩:=I.fs k x hx;have b1:200≤((231,k):Rl).1∧((231,k):Rl).1≤9000:=⟨by show 200≤231;decide,by show 231≤9000;decide⟩;have b2:200≤((232,k):Rl).1∧((232,k):Rl).1≤9000:=⟨by show 200≤232;decide,by show 232≤9000;decide⟩;have sa:=aay I.T qJ (r:=(231,k)) b1 a1 a2' a3' (by rw[I.Mc];exact a4);rw[I.Mc] at sa;generalize gj [.int .i64] A3=ra at*;generalize pA A3 j=xa at*
      repeat' first|simp(disch:=try exact yj) only[go_sem, *,jT,cJ,cG,cH,cI,Bool.not_true,Bool.not_false] | (apply xs<;>intro _)<;>try omega | ((with_reducible refine b8 9 ?_);refine dw 170 9 N19 (by first | (simp only[go_sem, *];done)|rfl) (by kernel_rfl) (by kernel_rfl) ?_) | ((with_reducible refine b8 10 ?_);refine dw 170 10 N25 (by first | (simp only[go_sem, *];done)|rfl) (by kernel_rfl) (by kernel_rfl) ?_) | ((with_reducible refine b8 11 ?_);refine dw 170 11 N24 (by first | (simp only[go_sem, *];done)|rfl) (by kernel_rfl) (by kernel_rfl) ?_) | ((with_reducible refine b8 21 ?_);refine dw 170 21 N17 (by first | (simp only[go_sem, *];done)|rfl) (by kernel_rfl) (by kernel_rfl) ?_)
      refine jg (sa) ?_;rintro v11 h11 n11 ⟨rfl,d11,C11,Vx,L9,T11⟩;clear sa pT g4 g5 gA9 v0;have zA:∀ r:Rl,200≤r.1→r.1≠231→r∉((231,k):Rl)::mA:=fun r hr hn q=>by
       rcases List.mem_cons.1 q with q |q
       ·exact hn (congrArg Prod.fst q)
       ·have:=QL q;omega
      have g5':=T11.st.at ((Vx.cc (241,0) (zA _ qi qi)).trans (I.lb qJ));rw[Vx.dd (241,0) qi,hF'] at g5';have apK:((232,k):Rl)∉[((2:Nat),(0:Nat))]:=fun q=>absurd (congrArg Prod.fst (List.mem_singleton.1 q)) (by show ¬(232:Nat)=2;decide);have sb:=aaB T11 (by have:=I.k;omega) (r:=(232,k)) b2 a1 a2' a3' (by rw[Vx.cc (232,k) (zA _ (by show 200≤232;decide) (by show (232:Nat)≠231;decide)),Vx.dd qB qi,I.Md];exact a5);rw[Vx.dd (232,k) apK,Vx.dd qB qi,I.Md] at sb;clear q1
      repeat' first|simp(disch:=try exact yj) only[go_sem, *,cJ,cG,cH,cI,Bool.not_true,Bool.not_false] | (apply xs<;>intro _)<;>try omega | ((with_reducible refine b8 9 ?_);refine dw 170 9 N19 (by first | (simp only[go_sem, *];done)|rfl) (by kernel_rfl) (by kernel_rfl) ?_) | ((with_reducible refine b8 10 ?_);refine dw 170 10 N25 (by first | (simp only[go_sem, *];done)|rfl) (by kernel_rfl) (by kernel_rfl) ?_) | ((with_reducible refine b8 11 ?_);refine dw 170 11 N24 (by first | (simp only[go_sem, *];done)|rfl) (by kernel_rfl) (by kernel_rfl) ?_) | ((with_reducible refine b8 21 ?_);refine dw 170 21 N17 (by first | (simp only[go_sem, *];done)|rfl) (by kernel_rfl) (by kernel_rfl) ?_)
      refine jg (sb) ?_;rintro UA h12 n12 ⟨rfl,d12,C12,Vy,IX,T12⟩;clear sb g5' q2;have ae2:d12 (240,0)=d9 (240,0):=(Vy.dd _ qi).trans (Vx.dd _ qi);have ae3:d12 (241,0)=d9 (241,0):=(Vy.dd _ qi).trans (Vx.dd _ qi);obtain⟨s12,atk,LJ⟩:∃ s' ss',N13 E mV bq n3 (720+j+1) s' (F'.set k ⟨x.th,x.v,x.key,ss'⟩) d12 C12 h12 n12:=⟨_,_,I.step hx (ss':=SS.step E x.ss x.key (vm s6.W (SS.ad E x.ss))) a1.step (by split<;>(first|exact Nat.le_succ _ |exact Nat.le_refl _)) (by split<;>(first|exact iT.refl|exact iT.refl.acc)) Vx L9 Vy IX T12⟩;have hpc:=a1.pc;generalize hdd:decide (x.ss.pc≠0∧(SS.step E x.ss x.key (vm s6.W (SS.ad E x.ss))).pc=0)=dd at*;clear hdd;have FH:(dd==dd)=true:=by cases dd<;>rfl
      have lS:(F'.set k ⟨x.th,x.v,x.key,atk⟩).length=F.length:=by rw[List.length_set,hF']
      obtain⟨o1,-,-,o4,o5⟩:=LJ.fs k ⟨x.th,x.v,x.key,atk⟩ (List.getElem?_set_self qJ);have g4:=LJ.T.st.at (LJ.la qJ);have g5:=LJ.T.st.at (LJ.lb qJ);rw[lS,ae2] at g4;rw[lS,ae3] at g5;have q1:(N20 d12 231 F.length)[k]? = some (pt (d12 (231,k))):=N12 hkF;have q2:(N20 d12 232 F.length)[k]? = some (pt (d12 (232,k))):=N12 hkF;have sf:=HT LJ.T.st o1 (r:=(231,k)) (r':=(232,k)) (mV:=mV) (bq:=bq) (th:=x.th) (v:=x.v) (key:=x.key) o4 o5;clear Vx Vy L9 IX T11 T12 o4 o5 o1 a4 a5 apK a1
      repeat' first|simp(disch:=try exact yj) only[go_sem, *,FH,cJ,cG,cH,cI,Bool.not_true,Bool.not_false] | (apply xs<;>intro _)<;>try omega | ((with_reducible refine b8 9 ?_);refine dw 170 9 N19 (by first | (simp only[go_sem, *];done)|rfl) (by kernel_rfl) (by kernel_rfl) ?_) | ((with_reducible refine b8 10 ?_);refine dw 170 10 N25 (by first | (simp only[go_sem, *];done)|rfl) (by kernel_rfl) (by kernel_rfl) ?_) | ((with_reducible refine b8 11 ?_);refine dw 170 11 N24 (by first | (simp only[go_sem, *];done)|rfl) (by kernel_rfl) (by kernel_rfl) ?_) | ((with_reducible refine b8 21 ?_);refine dw 170 21 N17 (by first | (simp only[go_sem, *];done)|rfl) (by kernel_rfl) (by kernel_rfl) ?_)
      refine jg (sf) ?_;rintro WZ h13 n13 ⟨rfl,k13,w13,l13⟩;intro Sc Se;have I13:=LJ.keep k13 w13 l13;have pT:=I13.T.st.at I13.zj;rw[I13.zi] at pT;clear sf q1 q2 g4 g5 k13 w13
      repeat' first|simp(disch:=try exact yj) only[go_sem, *,cJ,cG,cH,cI,Bool.not_true,Bool.not_false] | (apply xs<;>intro _)<;>try omega | ((with_reducible refine b8 9 ?_);refine dw 170 9 N19 (by first | (simp only[go_sem, *];done)|rfl) (by kernel_rfl) (by kernel_rfl) ?_) | ((with_reducible refine b8 10 ?_);refine dw 170 10 N25 (by first | (simp only[go_sem, *];done)|rfl) (by kernel_rfl) (by kernel_rfl) ?_) | ((with_reducible refine b8 11 ?_);refine dw 170 11 N24 (by first | (simp only[go_sem, *];done)|rfl) (by kernel_rfl) (by kernel_rfl) ?_) | ((with_reducible refine b8 21 ?_);refine dw 170 21 N17 (by first | (simp only[go_sem, *];done)|rfl) (by kernel_rfl) (by kernel_rfl) ?_)
      refine ih (200-(j+1)) _ _ _ qJ ⟨j+1,s12,F'.set k ⟨x.th,x.v,x.key,atk⟩,d12,C12,by omega,rfl,lS,?_⟩;rw[N11 h3,N11 h3,ae2,ae3];rw[show 720+j+1=720+(j+1) by omega] at I13;clear ih LJ I ae2 ae3 lS;simp(disch:=try exact yj) only[go_sem, *]
      first|exact⟨rfl,I13⟩ |exact I13|rfl |trace_state
     ·clear ih;have hY: ¬ (j:Int)<A3.length∨((j:Int)<A3.length∧ ¬(j:Int)<200)∨((j:Int)<A3.length∧(j:Int)<200∧F.length=0):=by omega
      obtain⟨AA,XK⟩:=I.log;have st:=HO I.T qJ (A:=AA) (by rw[XK,List.nil_append];rfl);unfold two at st;rw[I.Mc,I.Md] at st;clear XK
      rcases hY with e7 | ⟨e6,e7⟩ | ⟨e5,e6,e7⟩
      all_goals first
       | (exfalso;have hE:=hE7.h;omega)
       | (clear hE7
          try rw[e7,N22] at p5
          try rw[e7,N22] at p6
          repeat' first|simp(disch:=try exact yj) only[go_sem, *,cJ,cG,cH,cI,Bool.not_true,Bool.not_false] | (apply xs<;>intro _)<;>try omega | ((with_reducible refine b8 9 ?_);refine dw 170 9 N19 (by first | (simp only[go_sem, *];done)|rfl) (by kernel_rfl) (by kernel_rfl) ?_) | ((with_reducible refine b8 10 ?_);refine dw 170 10 N25 (by first | (simp only[go_sem, *];done)|rfl) (by kernel_rfl) (by kernel_rfl) ?_) | ((with_reducible refine b8 11 ?_);refine dw 170 11 N24 (by first | (simp only[go_sem, *];done)|rfl) (by kernel_rfl) (by kernel_rfl) ?_) | ((with_reducible refine b8 21 ?_);refine dw 170 21 N17 (by first | (simp only[go_sem, *];done)|rfl) (by kernel_rfl) (by kernel_rfl) ?_)
          refine jg (st) ?_;rintro v20 h20 n20 rfl
          repeat' first|simp(disch:=try exact yj) only[go_sem, *,sJ,cJ,cG,cH,cI,Bool.not_true,Bool.not_false] | (apply xs<;>intro _)<;>try omega | ((with_reducible refine b8 9 ?_);refine dw 170 9 N19 (by first | (simp only[go_sem, *];done)|rfl) (by kernel_rfl) (by kernel_rfl) ?_) | ((with_reducible refine b8 10 ?_);refine dw 170 10 N25 (by first | (simp only[go_sem, *];done)|rfl) (by kernel_rfl) (by kernel_rfl) ?_) | ((with_reducible refine b8 11 ?_);refine dw 170 11 N24 (by first | (simp only[go_sem, *];done)|rfl) (by kernel_rfl) (by kernel_rfl) ?_) | ((with_reducible refine b8 21 ?_);refine dw 170 21 N17 (by first | (simp only[go_sem, *];done)|rfl) (by kernel_rfl) (by kernel_rfl) ?_))
end
end Go.Proofs.YtofmbmclopgldaaGreat
namespace Go.Proofs.YtofmbmclopgldaaGreat
open Go.Am Go.Proofs.Tryz
theorem LK:OU prog (gG [(16,BN)]) 3000 10=true:=by kernel_rfl
theorem aaK:bG prog 10 sJ:=Iq (aV (.cons yM .nil)) bU ((II _ _ _ _).symm.trans LK)
theorem LL:OU prog (gG [(16,BN)]) 6000 36=true:=by kernel_rfl
theorem aaL:bG prog 36 sJ:=Iq (aV (.cons yM .nil)) bU ((II _ _ _ _).symm.trans LL)
theorem atp:cU prog OB:=aV (.cons K_ (.cons Uq (.cons Ur (.cons Zr (.cons aqV (.cons Ux (.cons Uw (.cons Cf (.cons aeR (.cons aeO (.cons yM (.cons afu (.cons aq6 (.cons EF (.cons EG (.cons PV (.cons La (.cons yx (.cons Zz (.cons Jf (.cons afK (.cons afL (.cons afU (.cons afV (.cons afM (.cons afN (.cons afO (.cons ZW (.cons afP (.cons US (.cons ZY (.cons ZZ (.cons UT (.cons aaK (.cons aaL .nil)))))))))))))))))))))))))))))))))))
end Go.Proofs.YtofmbmclopgldaaGreat
namespace Go.Proofs.YtofmbmclopgldaaGreat
open Go.Am Go.RowKit
theorem VF:Tryz.prog.cellsOf 27=16:=by kernel_rfl
theorem VG:Tryz.prog.cellsOf 24=3:=by kernel_rfl
theorem VH:Tryz.prog.cellsOf 25=6:=by kernel_rfl
theorem VI:Tryz.prog.cellsOf 22=1:=by kernel_rfl
theorem zm:Tryz.prog.cellsOf 3=1:=by kernel_rfl
theorem Rp:Tryz.prog.cellsOf 5=1:=by kernel_rfl
theorem VJ:Tryz.prog.cellsOf 57=1:=by kernel_rfl
theorem VK:Tryz.prog.bytesOf 57=8:=by kernel_rfl
theorem Fm:Tryz.prog.cellTypes Tryz.prog.depth 27=some [3,3,5,3,5,3,22,3,3,3,3,3,3,3,3,3]:=by kernel_rfl
theorem aaM{α:Type}{cs:List α}(h:cs.length=16):∃ c0 c1 c2 c3 c4 c5 c6 c7 c8 c9 RV L9 IX Pn Xb Xc,cs=[c0,c1,c2,c3,c4,c5,c6,c7,c8,c9,RV,L9,IX,Pn,Xb,Xc]:=by
 match cs,h with
 | [c0,c1,c2,c3,c4,c5,c6,c7,c8,c9,RV,L9,IX,Pn,Xb,Xc],_=>exact⟨c0,c1,c2,c3,c4,c5,c6,c7,c8,c9,RV,L9,IX,Pn,Xb,Xc,rfl⟩
section
variable {H:Type} {enc:TypeId×Value→H} {w:World} {base:Nat} {held:Bool}
theorem eu{fuel:Nat}{t:TypeId}{k:IntKind}{c:Value}{y:DataW H×List MemPlace}(ht:Tryz.prog.underlying t=some (.int k))(h:DataW.trod enc Tryz.prog w base (fun _=>true) held fuel t [c]=some y):∃ n,c = .int k n∧(Lit.int k n).wf=true:=by
 obtain⟨n,e,hw⟩:=trod_int ht h;simp only[List.cons.injEq,and_true] at e;exact⟨n,e,hw⟩
theorem Fo{fuel:Nat}{c0 c1 c2 c3 c4 c5:Value}{y:DataW H×List MemPlace}(h:DataW.trod enc Tryz.prog w base (fun _=>true) held fuel 25 [c0,c1,c2,c3,c4,c5]=some y):
  ∃ t0 t1 t2 t3 t4 t5,(c0 = .int .i64 t0∧(Lit.int .i64 t0).wf=true)∧(c1 = .int .i64 t1∧(Lit.int .i64 t1).wf=true)∧(c2 = .int .i64 t2∧(Lit.int .i64 t2).wf=true)∧(c3 = .int .i64 t3∧(Lit.int .i64 t3).wf=true)∧(c4 = .int .i64 t4∧(Lit.int .i64 t4).wf=true)∧(c5 = .int .i64 t5∧(Lit.int .i64 t5).wf=true):=by
 obtain⟨-,fuel',ha⟩:=trod_array Tryz.underlying25 h;rw[zm] at ha;obtain⟨y0,h0⟩:=ha 0 qJ;obtain⟨y1,h1⟩:=ha 1 qJ;obtain⟨y2,h2⟩:=ha 2 qJ;obtain⟨y3,h3⟩:=ha 3 qJ;obtain⟨y4,h4⟩:=ha 4 qJ;obtain⟨y5,h5⟩:=ha 5 qJ;obtain⟨t0,p0⟩:=eu Tryz.underlying3 h0;obtain⟨t1,p1⟩:=eu Tryz.underlying3 h1;obtain⟨t2,p2⟩:=eu Tryz.underlying3 h2;obtain⟨t3,p3⟩:=eu Tryz.underlying3 h3;obtain⟨t4,p4⟩:=eu Tryz.underlying3 h4;obtain⟨t5,p5⟩:=eu Tryz.underlying3 h5;exact⟨t0,t1,t2,t3,t4,t5,p0,p1,p2,p3,p4,p5⟩
theorem Rq{v:Value}{d:DataW H}{p:List MemPlace}{base':Nat}(hok:Value.okWide Tryz.prog w .any base' 27 v)(h:DataW.Trod enc Tryz.prog w base (fun _=>true) held 27 v d p)(hz:∀ n∈d.weights Tryz.prog 27,n≤reachBytes):
  ∃ th sl en bu kd dn t0 t1 t2 t3 t4 t5 lo tr ba s' vs s xs,v = .agg ⟨[.int .i64 th,.int .i64 sl,.int .u8 en,.int .i64 bu,.int .u8 kd,.int .i64 dn,s',.int .i64 t0,.int .i64 t1,.int .i64 t2,.int .i64 t3,.int .i64 t4,.int .i64 t5,.int .i64 lo,.int .i64 tr,.int .i64 ba]⟩∧
   rq vs w∧aD (iN vs) s s'∧aN .u64 (oY vs) s xs∧xs.length≤reachBytes∧(∀ n∈xs,(Lit.int .u64 n).wf=true)∧
   ((Lit.int .i64 th).wf=true∧(Lit.int .i64 sl).wf=true∧(Lit.int .u8 en).wf=true∧(Lit.int .i64 bu).wf=true∧(Lit.int .u8 kd).wf=true∧(Lit.int .i64 dn).wf=true)∧
   ((Lit.int .i64 t0).wf=true∧(Lit.int .i64 t1).wf=true∧(Lit.int .i64 t2).wf=true∧(Lit.int .i64 t3).wf=true∧(Lit.int .i64 t4).wf=true∧(Lit.int .i64 t5).wf=true)∧
   ((Lit.int .i64 lo).wf=true∧(Lit.int .i64 tr).wf=true∧(Lit.int .i64 ba).wf=true)∧(∀ a n c,s = .slice a n c→n≤c∧c<aA):=by
 unfold Value.okWide at hok;rw[Tryz.underlying27] at hok;obtain⟨⟨cs⟩,rfl,hsz,ts,hts,-,hcell⟩:=hok;rw[Fm] at hts;obtain rfl:=Option.some.inj hts;rw[VF] at hsz;obtain⟨c0,c1,c2,c3,c4,c5,c6,c7,c8,c9,RV,L9,IX,Pn,Xb,Xc,e⟩:=aaM hsz;subst e;obtain⟨fuel,h⟩:=h;obtain⟨-,fuel',parts,hp,ha⟩:=oZ Tryz.underlying27 h;obtain⟨y0,-,h0⟩:=ha 0 _ rfl;obtain⟨y1,-,h1⟩:=ha 1 _ rfl;obtain⟨y2,-,h2⟩:=ha 2 _ rfl;obtain⟨y3,-,h3⟩:=ha 3 _ rfl;obtain⟨y4,q4,h4⟩:=ha 4 _ rfl;obtain⟨y5,-,h5⟩:=ha 5 _ rfl;obtain⟨y6,-,h6⟩:=ha 6 _ rfl;obtain⟨y7,-,h7⟩:=ha 7 _ rfl;obtain⟨y8,-,h8⟩:=ha 8 _ rfl;simp only[zm,Rp,VG,VH] at h0 h1 h2 h3 h4 h5 h6 h7 h8;obtain⟨th,rfl,w0⟩:=eu Tryz.underlying3 h0;obtain⟨sl,rfl,w1⟩:=eu Tryz.underlying3 h1;obtain⟨en,rfl,w2⟩:=eu Tryz.underlying5 h2;obtain⟨bu,rfl,w3⟩:=eu Tryz.underlying3 h3;obtain⟨t0,t1,t2,t3,t4,t5,⟨rfl,x0⟩,⟨rfl,x1⟩,⟨rfl,x2⟩,⟨rfl,x3⟩,⟨rfl,x4⟩,⟨rfl,x5⟩⟩:=Fo h5;obtain⟨lo,rfl,w6⟩:=eu Tryz.underlying3 h6;obtain⟨tr,rfl,w7⟩:=eu Tryz.underlying3 h7;obtain⟨ba,rfl,w8⟩:=eu Tryz.underlying3 h8;obtain⟨-,fuel2,atq,hp2,hb⟩:=oZ Tryz.underlying24 h4;obtain⟨z0,-,g0⟩:=hb 0 _ rfl;obtain⟨z1,-,g1⟩:=hb 1 _ rfl;obtain⟨z2,r2,g2⟩:=hb 2 _ rfl;simp only[zm,Rp,VI] at g0 g1 g2;obtain⟨kd,rfl,w4⟩:=eu Tryz.underlying5 g0;obtain⟨dn,rfl,w5⟩:=eu Tryz.underlying3 g1;obtain⟨vs,s,s',xs,e,hvs,Kr,hin,hlen,hwf,hcp⟩:=open_ints (base':=base') Tryz.underlying22 Tryz.underlying57 VJ (by rw[VK];omega) g2
  (fun v hv=>by
   obtain⟨u,hu,hc⟩:=hcell 6 v hv;simp at hu;subst hu;exact hc)
  (fun n hn=>by
   refine hz n ?_;have e1:=o7 (P:=Tryz.prog) (j:=2) Tryz.underlying24 rfl r2 n hn;rw[←hp2] at e1;have e2:=o7 (P:=Tryz.prog) (j:=4) Tryz.underlying27 rfl q4 n e1;rw[←hp] at e2;exact e2)
 cases e;exact⟨th,sl,en,bu,kd,dn,t0,t1,t2,t3,t4,t5,lo,tr,ba,_,vs,s,xs,rfl,hvs,Kr,hin,hlen,hwf,⟨w0,w1,w2,w3,w4,w5⟩,⟨x0,x1,x2,x3,x4,x5⟩,⟨w6,w7,w8⟩,hcp⟩
end
end Go.Proofs.YtofmbmclopgldaaGreat
