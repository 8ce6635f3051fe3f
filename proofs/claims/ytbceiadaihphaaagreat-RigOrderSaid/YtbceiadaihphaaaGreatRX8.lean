/-
  A part of the proof: contracts of inner functions.
-/
import Derived.Test.YtbceiadaihphaaaGreatRW3
import Derived.Test.YtbceiadaihphaaaGreatRN
set_option linter.unusedVariables false
set_option linter.unusedSimpArgs false
namespace Go.Proofs.YtbceiadaihphaaaGreat
open Go.Am
variable {e:gT}
def cQ (n:Nat) (f:Nat→Value):List Value:=(List.range n).map f
@[go_sem] theorem eo {n:Nat} {f:Nat→Value}:(cQ n f).length=n:=by simp[cQ]
@[go_sem] theorem sJ {n i:Nat} {f:Nat→Value} (h:i<n):(cQ n f)[i]? = some (f i):=by
 unfold cQ;rw[List.getElem?_map,List.getElem?_range h];rfl
@[go_sem] theorem RU {n i:Nat} {f:Nat→Value} {x:Value}:(cQ n f).set i x=cQ n (fs f i x):=by
 apply List.ext_getElem?
 intro j
 rw[List.getElem?_set]
 by_cases c:i=j
 ·subst c
  rw[if_pos rfl]
  by_cases c2:i<n
  ·rw[if_pos (by rw[eo];exact c2),sJ c2,aA]
  ·rw[if_neg (by rw[eo];exact c2)]
   rw[List.getElem?_eq_none (by rw[eo];omega)]
 ·rw[if_neg c]
  by_cases c2:j<n
  ·rw[sJ c2,sJ c2,az (fun q=>c q.symm)]
  ·rw[List.getElem?_eq_none (by rw[eo];omega),List.getElem?_eq_none (by rw[eo];omega)]
theorem jd {n:Nat} {f g:Nat→Value} (h:∀ i,i<n→f i=g i):cQ n f=cQ n g:=by
 unfold cQ
 exact List.map_congr_left fun i hi=>h i (by simpa using hi)
attribute [go_sem] aA
@[go_sem] theorem iz {f:Nat→Value} {i j:Nat} {x:Value} (h:j≠i):fs f i x j=f j:=az h
def aZ (ops:Ops) (d:Rl→Nat) (r:RS e) (k:Nat):Nat→Value
 |0=>if ops k=[] then .slice none 0 0 else .slice (some ⟨d (42,k),0,none⟩) (ops k).length (aB+2)
 |1=>I6 (r.idx k)
 |2=>if e.br r.s k=true then pt (d (8,k)) else .pointer none
 |3=>if e.wt r.s k=true then pt (d (10,k)) else .pointer none
 |4=>U8 (r.pc k)
 |5 => .bool (r.bg k)
 |6 => .bool (e.bB r.s k)
 | _=>U6 (r.val k)
def aM (ops:Ops) (d:Rl→Nat) (r:RS e) (i:Nat):Value:=aZ ops d r (i/8) (i%8)
theorem aL {ops:Ops} {d:Rl→Nat} {r:RS e} {k j:Nat} (hj:j<8):aM ops d r (k*8+j)=aZ ops d r k j:=by
 unfold aM
 rw[show (k*8+j)/8=k by omega,show (k*8+j)%8=j by omega]
theorem Fu {P:Nat→Prop} {ns:Nat} (h:∀ k j,k<ns→j<8→P (k*8+j)) (i:Nat) (hi:i<8*ns):P i:=by
 have q:i=i/8*8+i%8:=by omega
 rw[q];exact h _ _ (by omega) (by omega)
def nZ (l:List (Nat×Nat)):List Value:=l.flatMap fun o=>[U8 o.1,U6 o.2]
def oZ (l:List (Nat×Nat×Nat×Nat)):List Value:=l.flatMap fun o=>[I6 o.1,I6 o.2.1,U8 o.2.2.1,U6 o.2.2.2]
theorem kL:∀ l,(oZ l).length=l.length*4
 | []=>rfl
 |o::l=>by
  have:oZ (o::l)=[I6 o.1,I6 o.2.1,U8 o.2.2.1,U6 o.2.2.2]++oZ l:=rfl
  rw[this,List.length_append,kL l]
  show 4+_=(l.length+1)*4
  omega
theorem Fv (l:List (Nat×Nat×Nat×Nat)) (a b c v:Nat):oZ l++[I6 a,I6 b,U8 c,U6 v]=oZ (l++[(a,b,c,v)]):=by simp[oZ]
theorem kM:∀ (l:List (Nat×Nat)) (i:Nat) (o:Nat×Nat),l[i]? = some o→(nZ l)[i*2]? = some (U8 o.1)∧(nZ l)[i*2+1]? = some (U6 o.2)
 | [],i,o,h=>by simp at h
 |p::l,0,o,h=>by simp at h;subst h;exact⟨rfl,rfl⟩
 |p::l,i+1,o,h=>by
  have:=kM l i o (by simpa using h)
  have q:nZ (p::l)=U8 p.1::U6 p.2::nZ l:=rfl
  rw[q,show (i+1)*2=i*2+1+1 by omega]
  exact⟨by simpa using this.1,by simpa using this.2⟩
def Av (d:Rl→Nat) (l:List (Nat×Nat×Nat×Nat)):Value:=if l=[] then .slice none 0 0 else .slice (some ⟨d (43,0),0,none⟩) l.length (aB+4)
def cS (d:Rl→Nat) (ns n:Nat) (l:List (Nat×Nat×Nat×Nat)):List Value:=[pt (d rM),pt (d (4,0)),.slice (some ⟨d (41,0),0,none⟩) ns (aB+8),Av d l,I6 n,.map (some (d (44,0)))]
def l5 (m:Nat):List jy:=[(1,.func (.func 33) ⟨[pt m]⟩ ⟨[]⟩,0),(2,.func (.func 34) ⟨[pt m]⟩ ⟨[]⟩,1),(3,.func (.func 35) ⟨[pt m]⟩ ⟨[]⟩,2)]
structure bP (rep:e.σ→List Value→(Rl→Nat)→(Rl→Option aj)→Prop) (ops:Ops) (ns:Nat) (f:Nat→Value) (r:RS e) (k:List Value) (d:Rl→Nat) (C:Rl→Option aj):Prop where
 rep:rep r.s k d C
 bA:C (40,0)=row (cS d ns r.n r.ev)
 dJ:C (41,0)=row (cQ (8*ns) f)
 ops:∀ t,t<ns→ops t≠[]→C (42,t)=row (nZ (ops t))
 ev:r.ev≠[]→C (43,0)=row (oZ r.ev)
 kinds:C (44,0)=some (.map (gZ .u8 (l5 (d (40,0)))) 3)
end Go.Proofs.YtbceiadaihphaaaGreat
namespace Go.Proofs.YtbceiadaihphaaaGreat
open Go.Am
variable {e:gT} {x:eG e} {rep:e.σ→List Value→(Rl→Nat)→(Rl→Option aj)→Prop}
theorem Kk:Tryz.prog.underlying 75=some (.map 5 95):=by kernel_rfl
theorem RV:Tryz.prog.underlying 5=some (.int .u8):=by kernel_rfl
theorem Mv:zeroOf Tryz.prog 95=some .nilFunc:=by kernel_rfl
@[go_sem] theorem ajB {r:Nat} {x:Int} {ok:Bool}:Oz Tryz.prog 75 (.map (some r)) (.int .u8 x) ok = .get r (LK Tryz.prog (.int .u8) 95 (.int .u8 x) ok):=lkI Kk RV
@[go_sem] theorem Mw:EO Tryz.prog 95 false (some none) = .pure (.value .nilFunc):=by simp only[EO,Mv,cond_false]
@[go_sem] theorem Mx {i:Nat} {v:Value}:EO Tryz.prog 95 false (some (some (i,v))) = .pure (.value v):=rfl
theorem zI {m:Nat} {x:Int}:eV x (l5 m) 0=if x=1 then some (0,.func (.func 33) ⟨[pt m]⟩ ⟨[]⟩) else if x=2 then some (1,.func (.func 34) ⟨[pt m]⟩ ⟨[]⟩) else if x=3 then some (2,.func (.func 35) ⟨[pt m]⟩ ⟨[]⟩) else none:=rfl
theorem cK {ops:Ops} {d d':Rl→Nat} {C C':Rl→Option aj} {r r':RS e} {t u j:Nat} (fr:Fr d C d' C' t) (c:u≠t) (h0:e.br r'.s u=e.br r.s u) (h1:e.wt r'.s u=e.wt r.s u) (h2:e.bB r'.s u=e.bB r.s u) (h3:r'.idx u=r.idx u) (h4:r'.pc u=r.pc u) (h5:r'.bg u=r.bg u) (h6:r'.val u=r.val u):aZ ops d' r' u j=aZ ops d r u j:=by
 match j with
 |0=>show (if _ then _ else Value.slice (some ⟨d' (42,u),0,none⟩) _ _)=(if _ then _ else Value.slice (some ⟨d (42,u),0,none⟩) _ _);rw[(fr.dZ 42 u (by omega)).1]
 |1=>show I6 (r'.idx u:Nat)=I6 (r.idx u:Nat);rw[h3]
 |2=>show (if _ then pt (d' (8,u)) else _)=(if _ then pt (d (8,u)) else _);rw[h0,(fr.ptr u c).1]
 |3=>show (if _ then pt (d' (10,u)) else _)=(if _ then pt (d (10,u)) else _);rw[h1,(fr.ptr u c).2]
 |4=>show U8 (r'.pc u:Nat)=U8 (r.pc u:Nat);rw[h4]
 |5=>show Value.bool (r'.bg u) = .bool (r.bg u);rw[h5]
 |6=>show Value.bool (e.bB r'.s u) = .bool (e.bB r.s u);rw[h2]
 |j+7=>show U6 (r'.val u:Nat)=U6 (r.val u:Nat);rw[h6]
theorem iA {ops:Ops} {d d':Rl→Nat} {r r':RS e} {ns t:Nat} {f g:Nat→Value} (ht:t<ns) (lg:∀ u j,u<ns→u≠t→j<8→aZ ops d' r' u j=aZ ops d r u j) (hf:∀ u j,u<ns→u≠t→j<8→f (u*8+j)=aZ ops d r u j) (hg:∀ i,(∀ j,j<8→i≠t*8+j)→g i=f i) (hgt:∀ j,j<8→g (t*8+j)=aZ ops d' r' t j):cQ (8*ns) g=cQ (8*ns) (aM ops d' r'):=by
 refine jd (Fu fun u j hu hj=>?_)
 rw[aL hj]
 by_cases c:u=t
 ·subst c;exact hgt j hj
 ·rw[hg _ (fun j' hj'=>by omega),hf u j hu c hj,lg u j hu c hj]
theorem jZ:∀ (l:List (Nat×Nat)) (i:Nat) (o:Nat×Nat),l[i]? = some o→List.take 2 (List.drop (i*2) (nZ l))=[U8 o.1,U6 o.2]
 | [],i,o,h=>by simp at h
 |p::l,0,o,h=>by simp at h;subst h;rfl
 |p::l,i+1,o,h=>by
  have:=jZ l i o (by simpa using h)
  have q:nZ (p::l)=U8 p.1::U6 p.2::nZ l:=rfl
  rw[q,show (i+1)*2=i*2+1+1 by omega]
  simpa using this
theorem cO:∀ l,(nZ l).length=l.length*2
 | []=>rfl
 |o::l=>by
  have:nZ (o::l)=[U8 o.1,U6 o.2]++nZ l:=rfl
  rw[this,List.length_append,cO l]
  show 2+_=(l.length+1)*2
  omega
theorem Fr.rfl {d:Rl→Nat} {C:Rl→Option aj} {t:Nat}:Fr d C d C t:=⟨fun _ _ _=>⟨Eq.refl _,Eq.refl _⟩,fun _ _=>⟨Eq.refl _,Eq.refl _⟩,Eq.refl _,Eq.refl _⟩
structure Fx (d:Rl→Nat) (C:Rl→Option aj) (d':Rl→Nat) (C':Rl→Option aj):Prop where
 m:d' (40,0)=d (40,0)
 x:∀ a b,60≤a→d' (a,b)=d (a,b)∧C' (a,b)=C (a,b)
structure hH (rep:e.σ→List Value→(Rl→Nat)→(Rl→Option aj)→Prop) (ops:Ops) (ns:Nat) (r':RS e) (k':List Value) (d:Rl→Nat) (C:Rl→Option aj) (h':PT aj) (n':Nat):Prop where
 out:∃ d' C',St h' n' d' C'∧bP rep ops ns (aM ops d' r') r' k' d' C'∧Fx d C d' C'
def kW (ops:Ops) (ns:Nat):Prop:=∀ t,t<ns→(ops t).length≤30∧∀ o∈ops t,o.1<256∧o.2<2^64
def va (ops:Ops) (ns t:Nat) (d:Rl→Nat) (r:RS e) (f:Nat→Value):Prop:=(∀ u j,u<ns→u≠t→j<8→f (u*8+j)=aZ ops d r u j)∧∀ j,j<8→j≠2→j≠3→j≠4→f (t*8+j)=aZ ops d r t j
theorem hH.of {ops:Ops} {k:List Value} {ns t:Nat} {f g:Nat→Value} {r r':RS e} {d d':Rl→Nat} {C C':Rl→Option aj} {h':PT aj} {n':Nat} (R:bP rep ops ns f r k d C) (S:St h' n' d' C') (hr:rep r'.s k d' C') (fr:∀ a b,30≤a→a≠41→d' (a,b)=d (a,b)∧C' (a,b)=C (a,b)) (V3:d' (41,0)=d (41,0)) (h4:d' (4,0)=d (4,0)) (hM:d' rM=d rM) (My:C' (41,0)=row (cQ (8*ns) g)) (hg:cQ (8*ns) g=cQ (8*ns) (aM ops d' r')) (hn:r'.n=r.n) (cR:r'.ev=r.ev):hH rep ops ns r' k d C h' n':=by
 refine⟨d',C',S,⟨hr,?_,by rw[My,hg],fun u hu c=>?_,fun c=>?_,?_⟩,⟨(fr 40 0 (by omega) (by omega)).1,fun a b c=>fr a b (by omega) (by omega)⟩⟩
 ·rw[(fr 40 0 (by omega) (by omega)).2,R.bA,hn,cR]
  unfold cS Av
  rw[h4,V3,hM,(fr 43 0 (by omega) (by omega)).1,(fr 44 0 (by omega) (by omega)).1]
 ·rw[(fr 42 u (by omega) (by omega)).2];exact R.ops u hu c
 ·rw[(fr 43 0 (by omega) (by omega)).2,cR];exact R.ev (by rw[←cR];exact c)
 ·rw[(fr 44 0 (by omega) (by omega)).2,(fr 40 0 (by omega) (by omega)).1];exact R.kinds
theorem case8 {P:Nat→Prop} (h0:P 0) (h1:P 1) (h2:P 2) (h3:P 3) (h4:P 4) (h5:P 5) (h6:P 6) (h7:P 7) (j:Nat) (hj:j<8):P j:=by
 match j,hj with
 |0,_=>exact h0
 |1,_=>exact h1
 |2,_=>exact h2
 |3,_=>exact h3
 |4,_=>exact h4
 |5,_=>exact h5
 |6,_=>exact h6
 |7,_=>exact h7
end Go.Proofs.YtbceiadaihphaaaGreat
