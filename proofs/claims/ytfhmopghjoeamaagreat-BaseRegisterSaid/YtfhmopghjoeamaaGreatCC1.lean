/-
  A part of the proof: contracts of inner functions.
-/
import Derived.Test.YtfhmopghjoeamaaGreatCA
import Derived.Test.YtfhmopghjoeamaaGreatBJ
set_option linter.unusedVariables false
set_option linter.unusedSimpArgs false
namespace Go.Proofs.YtfhmopghjoeamaaGreat
open Go.Am
def PN (th sl en bu kd dn t0 t1 t2 t3 t4 t5 lo tr ba:Int) (s:Value):List Value:=[I6 th,I6 sl,U8 en,I6 bu,U8 kd,I6 dn,s,I6 t0,I6 t1,I6 t2,I6 t3,I6 t4,I6 t5,I6 lo,I6 tr,I6 ba]
theorem KD {th sl en bu kd dn t0 t1 t2 t3 t4 t5 lo tr ba:Int} {s:Value} {i:Nat} (hi:i<6):[I6 th,I6 sl,U8 en,I6 bu,U8 kd,I6 dn,s,I6 t0,I6 t1,I6 t2,I6 t3,I6 t4,I6 t5,I6 lo,I6 tr,I6 ba][7+i]? = some (I6 ([t0,t1,t2,t3,t4,t5].getD i 0)):=by
 have:i=0∨i=1∨i=2∨i=3∨i=4∨i=5:=by omega
 rcases this with rfl |rfl |rfl |rfl |rfl |rfl<;>rfl
set_option maxRecDepth 100000 in
set_option maxHeartbeats 8000000 in
theorem KE {O:Over} (th sl en bu kd dn t0 t1 t2 t3 t4 t5 lo tr ba:Int) {a:Option Addr} {len cap:Nat} (h:PT aj) (N:Nat) (hW:bX h N):
  cT Tryz.prog O 13 [.agg ⟨[I6 th,I6 sl,U8 en,I6 bu,U8 kd,I6 dn,.slice a len cap,I6 t0,I6 t1,I6 t2,I6 t3,I6 t4,I6 t5,I6 lo,I6 tr,I6 ba]⟩] h N fun v h' n'=>(∃ b,v = .bool b)∧Kept h h'∧bX h' n'∧N≤n':=by
 refine aB (N:=30) Tryz.func13 rfl rfl fun z hP hO hro hN hQ=>?_
 repeat' first |simp(maxSteps:=2000000) (disch:=first |omega |assumption) only[go_sem, *] | (apply xs<;>intro _)<;>try omega
 generalize Gy:h.set N _=h1
 have e1:h1.get N=row [I6 th,I6 sl,U8 en,I6 bu,U8 kd,I6 dn,.slice a len cap,I6 t0,I6 t1,I6 t2,I6 t3,I6 t4,I6 t5,I6 lo,I6 tr,I6 ba]:=by rw[←Gy];exact bS
 have Kh:bX h1 (N+1):=by rw[←Gy];exact hW.set (by omega) (by omega)
 have k1:Kept h h1:=by rw[←Gy];exact hW.kept (Nat.le_refl _)
 clear Gy
 have hat:∀ i,i<6→_:=fun i hi=>@KD th sl en bu kd dn t0 t1 t2 t3 t4 t5 lo tr ba (.slice a len cap) i hi
 refine cU (fun t m h' n'=>∃ (i:Nat) (u:Int),i≤6∧t=6-i∧m.n=30∧m.fO=[]∧m.get 1=pt N∧m.get 3=I6 u∧m.get 4=I6 i∧0≤u∧u≤60*i∧h1=h'∧N+1=n') 6 ?_ ?_
 ·refine⟨0,0,by omega,by omega,?_⟩
  simp(maxSteps:=2000000) (disch:=first |omega |assumption) only[go_sem, *]
 ·rintro t m h' n' ih ⟨i,u,hi,rfl,q1,q2,q3,q4,q5,q6,q7,rfl,rfl⟩
  by_cases hlt:i<6
  ·have e6:(i:Int)<6:=by omega
   have ha:=hat i hlt
   generalize [t0,t1,t2,t3,t4,t5].getD i 0=x at ha
   clear hat
   have hi1:(i:Int)+1=((i+1:Nat):Int):=by omega
   by_cases hx:60<x
   ·repeat' first |simp(maxSteps:=2000000) (disch:=first |omega |assumption) only[go_sem, *] | (apply xs<;>intro _)<;>try omega
    exact⟨⟨_,rfl⟩,by omega⟩
   ·by_cases hx0:0≤x
    ·repeat' first |simp(maxSteps:=2000000) (disch:=first |omega |assumption) only[go_sem, *] | (apply xs<;>intro _)<;>try omega
     refine ih (6-(i+1)) _ _ _ (by omega) ⟨i+1,u+x,by omega,rfl,?_⟩
     simp(maxSteps:=2000000) (disch:=first |omega |assumption) only[go_sem, *]
     exact⟨by rw[if_neg (show ¬0>x by omega)],by omega,by omega⟩
    ·repeat' first |simp(maxSteps:=2000000) (disch:=first |omega |assumption) only[go_sem, *] | (apply xs<;>intro _)<;>try omega
     refine ih (6-(i+1)) _ _ _ (by omega) ⟨i+1,u,by omega,rfl,?_⟩
     simp(maxSteps:=2000000) (disch:=first |omega |assumption) only[go_sem, *]
     exact⟨by rw[if_pos (show 0>x by omega),Int.add_zero],by omega⟩
  ·have e6: ¬ (i:Int)<6:=by omega
   by_cases c:u≤60
   ·repeat' first |simp(maxSteps:=2000000) (disch:=first |omega |assumption) only[go_sem, *] | (apply xs<;>intro _)<;>try omega
    exact⟨⟨_,rfl⟩,by omega⟩
   ·repeat' first |simp(maxSteps:=2000000) (disch:=first |omega |assumption) only[go_sem, *] | (apply xs<;>intro _)<;>try omega
    exact⟨⟨_,rfl⟩,by omega⟩
end Go.Proofs.YtfhmopghjoeamaaGreat
set_option linter.unusedVariables false
set_option linter.unusedSimpArgs false
namespace Go.Proofs.YtfhmopghjoeamaaGreat
open Go.Am
theorem Bs.start {sl en:Int} {h1 h:PT aj} {n1 n sz lb:Nat} {V:Int} {l:bZ} {d:Rl→Nat} {C:Rl→Option aj} (S:St h n d C) (N:Pd sl en h1 n1 d C lb l) (hl:(rB (pt lb)).look h1=some l) (hn:DA l V sz):
  ∃ p5 p6,Bs h1 n1 lb l (.slice none 0 0) (.slice none 0 0) p5 p6 0 0 (List.replicate (l.H.length+1) 0) d C h n:=by
 obtain⟨F,M,B,-,-⟩:=N
 have I:=hn.L5
 have e9:=hn.p9
 have z2:=hn.SX
 have i5:=I.p5
 have i6:=I.p6
 have i9:=I.p9
 have n12:n1≤n:=by
  have:=F.lo _ _ (by decide) M.mem
  have:=S.lt M.mem
  omega
 have hr:∀ u,(List.replicate (l.H.length+1) (0:Int)).getD u 0=0:=fun u=>by
  simp only[List.getD,List.getElem?_replicate];split<;>rfl
 have Wu:∀ u,(List.replicate l.H.length (0:Int)).getD u 0=0:=fun u=>by
  simp only[List.getD,List.getElem?_replicate];split<;>rfl
 refine⟨(l.P.getD 5 0).toNat,(l.P.getD 6 0).toNat,t_ l,fun k=>mS l.H ((k:Int)+1) 1,fun _=>0,[],0,List.replicate l.H.length 0,[],0,⟨n12,S,F,⟨[],M⟩,B,DI.init (by omega) (by omega) rfl,by omega,by omega,by omega,I.len,hl,by rw[List.length_replicate]⟩,?_⟩
 refine⟨by rw[List.length_replicate],hr 0,fun u=>by rw[hr];decide,I.len,by rw[List.length_replicate],fun j t _ _=>hr t,⟨by simp,by simp,by simp,by simp,by simp⟩,fun x=>⟨fun ⟨e,he,_⟩=>by simp at he,fun ⟨u,_,_,_,h4⟩=>absurd (hr u) h4⟩,fun u=>by rw[Wu];exact⟨Int.le_refl _,Int.le_refl _⟩,fun u _ _=>?_,fun u i v _ _ hf=>by simp[aT] at hf⟩
 rw[hr]
 exact .inl rfl
theorem Bs.own {h1 h h':PT aj} {n1 n n' lb:Nat} {l:bZ} {mk ev:Value} {p5 p6 k:Nat} {d d':Rl→Nat} {C C':Rl→Option aj} {K:List Int} {b:Int} (H:Bs h1 n1 lb l mk ev p5 p6 b k K d C h n) (hn:n≤n') (S:St h' n' d' C') (F:n1≤n→Fz h1 n1 d C→Fz h1 n1 d' C') (fr:∀ a c,(a<90∨99<a)→d' (a,c)=d (a,c)∧C' (a,c)=C (a,c)):Bs h1 n1 lb l mk ev p5 p6 b k K d' C' h' n':=by
 obtain⟨W,stk,tag,X,xk,G,R,rk,⟨P1,S0,F0,⟨L,M⟩,B,K0,e5,e6,hp,hH,hlk,wz⟩,I⟩:=H
 exact⟨_,_,_,_,_,_,_,_,⟨Nat.le_trans P1 hn,S,F P1 F0,⟨L,M.of fun a ha=>fr a 0 (by omega)⟩,B.same (fr 0 0 (by omega)).1 fun a ha=>fr a 0 (by omega),K0,e5,e6,hp,hH,hlk,wz⟩,I⟩
theorem Bs.st {h1 h:PT aj} {n1 n lb:Nat} {l:bZ} {mk ev:Value} {p5 p6 k:Nat} {d:Rl→Nat} {C:Rl→Option aj} {K:List Int} {b:Int} (H:Bs h1 n1 lb l mk ev p5 p6 b k K d C h n):n1≤n∧St h n d C∧Fz h1 n1 d C∧K.length=l.H.length+1∧K.getD 0 0=0:=by
 obtain⟨W,stk,tag,X,xk,G,R,rk,⟨P1,S0,F0,⟨L,M⟩,B,K0,e5,e6,hp,hH,hlk,wz⟩,I⟩:=H
 exact⟨P1,S0,F0,I.yx,I.k0⟩
theorem Bs.newRow {h1 h:PT aj} {n1 n m n' lb:Nat} {l:bZ} {mk ev:Value} {p5 p6 k:Nat} {d:Rl→Nat} {C:Rl→Option aj} {K:List Int} {b:Int} (H:Bs h1 n1 lb l mk ev p5 p6 b k K d C h n) {a:Nat} (ha:90≤a∧a≤99) (v:aj) (hm:n≤m) (hm2:m<n'):Bs h1 n1 lb l mk ev p5 p6 b k K (upd d (a,0) m) (upd C (a,0) (some v)) (h.set m (some v)) n':=
 H.own (by omega) (H.st.2.1.new (a,0) v hm hm2) (fun q F=>F.new (by omega) (by omega) _) fun x c hx=>⟨aq (by omega),aq (by omega)⟩
theorem Bs.setRow {h1 h:PT aj} {n1 n lb:Nat} {l:bZ} {mk ev:Value} {p5 p6 k:Nat} {d:Rl→Nat} {C:Rl→Option aj} {K:List Int} {b:Int} (H:Bs h1 n1 lb l mk ev p5 p6 b k K d C h n) {a:Nat} (ha:90≤a∧a≤99) {v0:aj} (v:aj) (hc:C (a,0)=some v0):Bs h1 n1 lb l mk ev p5 p6 b k K d (upd C (a,0) (some v)) (h.set (d (a,0)) (some v)) n:=
 H.own (Nat.le_refl _) (H.st.2.1.set (a,0) v hc rfl) (fun q F=>F.set (by omega) hc _) fun x c hx=>⟨rfl,aq (by omega)⟩
def mW (A:List (List Int)) (i:Nat):Int:=(A.getD i []).getD 0 0
def mT (A:List (List Int)) (i:Nat):Int:=(A.getD i []).getD 1 0
theorem moves {A:List (List Int)} (hA:iD [.int .u8,.int .i64] A) {i:Nat} (hi:i<A.length):
  (eO [.int .u8,.int .i64] A)[i*2]? = some (U8 (mW A i))∧(eO [.int .u8,.int .i64] A)[i*2+1]? = some (I6 (mT A i))∧(0≤mW A i∧mW A i<256) ∧ -9223372036854775808≤mT A i∧mT A i≤9223372036854775807:=by
 have hx:A[i]? = some A[i]:=List.getElem?_eq_getElem hi
 have h0:=nQ hA hx 0 (by decide)
 have h1:=nQ hA hx 1 (by decide)
 obtain⟨e,w⟩:=hA A[i] (List.getElem_mem hi)
 unfold mW mT
 rw[show A.getD i []=A[i] by simp[List.getD,hx]]
 generalize A[i]=r at*
 match r,e with
 | [a,b],_=>
  refine⟨h0,h1,Dg w.1,?_⟩
  exact Ar w.2.1
end Go.Proofs.YtfhmopghjoeamaaGreat
set_option linter.unusedVariables false
set_option linter.unusedSimpArgs false
namespace Go.Proofs.YtfhmopghjoeamaaGreat
open Go.Am
structure uo (h3:PT aj) (n3 lb:Nat) (l:bZ) (p5 p6:Nat) (b:Int) (k:Nat) (K:List Int) (bb kb:Nat) (X:Nat→List Int) (d:Rl→Nat) (C:Rl→Option aj) (h:PT aj) (n:Nat):Prop where
 bs:Bs h3 n3 lb l (.slice none 0 0) (.slice none 0 0) p5 p6 b k K d C h n
 gT:C (94,0)=row (K.map (.int .i64))
 Xe:d (70,0)=bb
 PO:d (94,0)=kb
 rows:∀ a,91≤a→a≤93→0<(X a).length→C (a,0)=row ((X a).map (.int .i64))
def qX (x1 x2 x3:List Int) (a:Nat):List Int:=if a=91 then x1 else if a=92 then x2 else x3
def Ih (X:Nat→List Int) (a:Nat) (x:Int) (c:Nat):List Int:=if c=a then X a++[x] else X c
theorem Xf {x1 x2 x3:List Int} {x:Int}:Ih (qX x1 x2 x3) 91 x=qX (x1++[x]) x2 x3:=by
 funext c;unfold Ih qX;split<;>rfl
theorem Xg {x1 x2 x3:List Int} {x:Int}:Ih (qX x1 x2 x3) 92 x=qX x1 (x2++[x]) x3:=by
 funext c;unfold Ih qX;split
 ·rename_i c;subst c;rfl
 ·split<;>rfl
theorem Xh {x1 x2 x3:List Int} {x:Int} {d:Rl→Nat} {C:Rl→Option aj} {h3 h:PT aj} {n3 lb n:Nat} {l:bZ} {p5 p6:Nat} {b:Int} {k:Nat} {K:List Int} {bb kb:Nat} (H:uo h3 n3 lb l p5 p6 b k K bb kb (Ih (qX x1 x2 x3) 93 x) d C h n):uo h3 n3 lb l p5 p6 b k K bb kb (qX x1 x2 (x3++[x])) d C h n:=by
 obtain⟨a1,a2,a3,a4,a5⟩:=H
 refine⟨a1,a2,a3,a4,fun a h1 h2=>?_⟩
 have:=a5 a h1 h2
 have e:Ih (qX x1 x2 x3) 93 x a=qX x1 x2 (x3++[x]) a:=by
  have:a=91∨a=92∨a=93:=by omega
  rcases this with rfl |rfl |rfl<;>rfl
 rwa [e] at this
theorem uo.grow {d:Rl→Nat} {C:Rl→Option aj} {h3 h h':PT aj} {n3 lb n:Nat} {l:bZ} {p5 p6:Nat} {b:Int} {k:Nat} {K:List Int} {bb kb:Nat} {X:Nat→List Int} (H:uo h3 n3 lb l p5 p6 b k K bb kb X d C h n) (a:Nat) (ha:91≤a∧a≤93) (x:Int) {Y:Option aj} (e:((X a).length=0∧h'=(h.set n Y).set (n+1) (row ((X a++[x]).map (.int .i64))))∨(0<(X a).length∧h'=((h.set n Y).set (d (a,0)) none).set (n+1) (row ((X a++[x]).map (.int .i64))))):
  uo h3 n3 lb l p5 p6 b k K bb kb (Ih X a x) (upd d (a,0) (n+1)) (upd C (a,0) (row ((X a++[x]).map (.int .i64)))) h' (n+2):=by
 obtain⟨B,gT,e1,e2,hr⟩:=H
 have S:=B.st.2.1
 refine⟨B.own (by omega) ?_ (fun q F=>F.new (by omega) (by omega) _) (fun c i hc=>⟨aq (by omega),aq (by omega)⟩),(aq (by omega)).trans gT,(aq (by omega)).trans e1,(aq (by omega)).trans e2,fun c h1 h2 hc=>?_⟩
 ·rcases e with ⟨e,rfl⟩ | ⟨e,rfl⟩
  ·exact(S.junk (Nat.le_refl _) (Nat.lt_succ_self _)).new (a,0) _ (Nat.le_refl _) (Nat.lt_succ_self _)
  ·exact(((S.junk (Nat.le_refl _) (Nat.lt_succ_self _)).kill (a,0) (hr a ha.1 ha.2 e) rfl).new (a,0) _ (Nat.le_refl _) (Nat.lt_succ_self _)).eq (by rw[gd]) rfl
 ·unfold Ih at hc ⊢
  by_cases ca:c=a
  ·subst ca;rw[if_pos rfl];exact au
  ·rw[if_neg ca] at hc ⊢
   rw[aq ca];exact hr c h1 h2 hc
theorem uo.g91 {d:Rl→Nat} {C:Rl→Option aj} {h3 h h':PT aj} {n3 lb n:Nat} {l:bZ} {p5 p6:Nat} {b:Int} {k:Nat} {K:List Int} {bb kb:Nat} {x1 x2 x3:List Int} (H:uo h3 n3 lb l p5 p6 b k K bb kb (qX x1 x2 x3) d C h n) (x:Int) {Y:Option aj} (e:(x1.length=0∧h'=(h.set n Y).set (n+1) (row ((x1++[x]).map (.int .i64))))∨(0<x1.length∧h'=((h.set n Y).set (d (91,0)) none).set (n+1) (row ((x1++[x]).map (.int .i64))))):
  ∃ d' C',d' (92,0)=d (92,0)∧d' (93,0)=d (93,0)∧d' (91,0)=n+1∧uo h3 n3 lb l p5 p6 b k K bb kb (qX (x1++[x]) x2 x3) d' C' h' (n+2):=by
 have I:=H.grow 91 (by omega) x (Y:=Y) (h':=h') e
 rw[Xf] at I
 exact⟨_,_,aq (by decide),aq (by decide),au,I⟩
theorem uo.g92 {d:Rl→Nat} {C:Rl→Option aj} {h3 h h':PT aj} {n3 lb n:Nat} {l:bZ} {p5 p6:Nat} {b:Int} {k:Nat} {K:List Int} {bb kb:Nat} {x1 x2 x3:List Int} (H:uo h3 n3 lb l p5 p6 b k K bb kb (qX x1 x2 x3) d C h n) (x:Int) {Y:Option aj} (e:(x2.length=0∧h'=(h.set n Y).set (n+1) (row ((x2++[x]).map (.int .i64))))∨(0<x2.length∧h'=((h.set n Y).set (d (92,0)) none).set (n+1) (row ((x2++[x]).map (.int .i64))))):
  ∃ d' C',d' (91,0)=d (91,0)∧d' (93,0)=d (93,0)∧d' (92,0)=n+1∧uo h3 n3 lb l p5 p6 b k K bb kb (qX x1 (x2++[x]) x3) d' C' h' (n+2):=by
 have I:=H.grow 92 (by omega) x (Y:=Y) (h':=h') e
 rw[Xg] at I
 exact⟨_,_,aq (by decide),aq (by decide),au,I⟩
theorem uo.g93 {d:Rl→Nat} {C:Rl→Option aj} {h3 h h':PT aj} {n3 lb n:Nat} {l:bZ} {p5 p6:Nat} {b:Int} {k:Nat} {K:List Int} {bb kb:Nat} {x1 x2 x3:List Int} (H:uo h3 n3 lb l p5 p6 b k K bb kb (qX x1 x2 x3) d C h n) (x:Int) {Y:Option aj} (e:(x3.length=0∧h'=(h.set n Y).set (n+1) (row ((x3++[x]).map (.int .i64))))∨(0<x3.length∧h'=((h.set n Y).set (d (93,0)) none).set (n+1) (row ((x3++[x]).map (.int .i64))))):
  ∃ d' C',d' (91,0)=d (91,0)∧d' (92,0)=d (92,0)∧d' (93,0)=n+1∧uo h3 n3 lb l p5 p6 b k K bb kb (qX x1 x2 (x3++[x])) d' C' h' (n+2):=by
 have I:=H.grow 93 (by omega) x (Y:=Y) (h':=h') e
 exact⟨_,_,aq (by decide),aq (by decide),au,Xh I⟩
theorem qU {p:Int→Bool} {K:List Int} {m:Nat}:fP p K (m+1)=if p (K.getD (m+1) 0)=true then fP p K m++[((m+1:Nat):Int)] else fP p K m:=by
 split
 ·rename_i h;exact DW h
 ·rename_i h;exact zg (by simpa using h)
theorem qV {h:PT aj} {g:Nat} {T:List Int} (H:0<T.length→h.get g=row (T.map (.int .i64))):aS .i64 h (mkV g T) T:=by
 by_cases c:T.length=0
 ·obtain rfl:T=[]:=List.length_eq_zero_iff.1 c
  exact .inl ⟨rfl,rfl⟩
 ·have hp:0<T.length:=by omega
  rw[mU hp]
  exact(aY.gP (lo:=0) (.inr ⟨g,rfl,Nat.zero_le _,H hp⟩))
theorem Bs.Xi {h1 h:PT aj} {n1 n lb:Nat} {l:bZ} {mk ev:Value} {p5 p6 k:Nat} {d:Rl→Nat} {C:Rl→Option aj} {K:List Int} {b:Int} (H:Bs h1 n1 lb l mk ev p5 p6 b k K d C h n):∃ v0 v1 v3 v4 v5 v6 v7 v8 w0 w1 w2 w3 w5 pb rr xk X,h.get (d (70,0))=row [v0,v1,pt pb,v3,v4,v5,v6,v7,v8]∧d (70,0)<n∧pb<n∧rr<n∧h.get pb=row [w0,w1,w2,w3,.map (some rr),w5]∧h.get rr=some (.map (bA .i64 X) xk)∧iV X xk∧bB X=fP (fun k=>decide (k≠0)) K l.H.length:=by
 obtain⟨W,stk,tag,X,xk,G,R,rk,⟨P1,S,F,M,B,K0,e5,e6,hp,hH,hlk,wz⟩,I⟩:=H
 exact⟨_,_,_,_,_,_,_,_,_,_,_,_,_,_,_,_,X,S.at B.base,S.lt B.base,S.lt B.pool,S.lt B.out,S.at B.pool,S.at B.out,I.ox,I.DX⟩
theorem KG {z:Zx} {v:Value} {c1 c2:Code} {K:List KF} {m:Tm} {h:PT aj} {n:Nat} (PR:Tm→PT aj→Nat→Prop) (h1:∀ m h n,PR m h n→Go.Am.Rs z K .normal m h n) (h2:∀ K2,(∀ m h n,PR m h n→Go.Am.Rs z K2 .normal m h n)→tI z v c1 c2 K2 m h n):tI z v c1 c2 K m h n:=h2 K h1
end Go.Proofs.YtfhmopghjoeamaaGreat
