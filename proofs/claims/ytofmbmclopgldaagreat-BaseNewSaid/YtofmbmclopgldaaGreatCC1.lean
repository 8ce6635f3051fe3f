/-
  A part of the proof: contracts of inner functions.
-/
import Derived.Test.YtofmbmclopgldaaGreatCA
import Derived.Test.YtofmbmclopgldaaGreatBR
set_option linter.unusedVariables false
set_option linter.unusedSimpArgs false
namespace Go.Proofs.YtofmbmclopgldaaGreat
open Go.Am
def Vn (th sl en bu kd dn t0 t1 t2 t3 t4 t5 lo tr ba:Int) (s:Value):List Value:=[I6 th,I6 sl,U8 en,I6 bu,U8 kd,I6 dn,s,I6 t0,I6 t1,I6 t2,I6 t3,I6 t4,I6 t5,I6 lo,I6 tr,I6 ba]
theorem Qd {th sl en bu kd dn t0 t1 t2 t3 t4 t5 lo tr ba:Int} {s:Value} {i:Nat} (hi:i<6):[I6 th,I6 sl,U8 en,I6 bu,U8 kd,I6 dn,s,I6 t0,I6 t1,I6 t2,I6 t3,I6 t4,I6 t5,I6 lo,I6 tr,I6 ba][7+i]? = some (I6 ([t0,t1,t2,t3,t4,t5].getD i 0)):=by
 have:i=0∨i=1∨i=2∨i=3∨i=4∨i=5:=by omega
 rcases this with rfl |rfl |rfl |rfl |rfl |rfl<;>rfl
set_option maxRecDepth 100000 in
set_option maxHeartbeats 8000000 in
theorem Qe {O:Over} (th sl en bu kd dn t0 t1 t2 t3 t4 t5 lo tr ba:Int) {a:Option Addr} {len cap:Nat} (h:PT ak) (N:Nat) (hW:bL h N):
  cW Tryz.prog O 8 [.agg ⟨[I6 th,I6 sl,U8 en,I6 bu,U8 kd,I6 dn,.slice a len cap,I6 t0,I6 t1,I6 t2,I6 t3,I6 t4,I6 t5,I6 lo,I6 tr,I6 ba]⟩] h N fun v h' n'=>(∃ b,v = .bool b)∧Kept h h'∧bL h' n'∧N≤n':=by
 refine ay (N:=30) Tryz.func8 rfl rfl fun z hP hO hro hN hQ=>?_
 repeat' first |simp(maxSteps:=2000000) (disch:=first |omega |assumption) only[go_sem, *] | (apply xs<;>intro _)<;>try omega
 generalize By:h.set N _=h1
 have e1:h1.get N=row [I6 th,I6 sl,U8 en,I6 bu,U8 kd,I6 dn,.slice a len cap,I6 t0,I6 t1,I6 t2,I6 t3,I6 t4,I6 t5,I6 lo,I6 tr,I6 ba]:=by rw[←By];exact bC
 have PI:bL h1 (N+1):=by rw[←By];exact hW.set (by omega) (by omega)
 have k1:Kept h h1:=by rw[←By];exact hW.kept (Nat.le_refl _)
 clear By
 have hat:∀ i,i<6→_:=fun i hi=>@Qd th sl en bu kd dn t0 t1 t2 t3 t4 t5 lo tr ba (.slice a len cap) i hi
 refine bY (fun t m h' n'=>∃ (i:Nat) (u:Int),i≤6∧t=6-i∧m.n=30∧m.eS=[]∧m.get 1=pt N∧m.get 3=I6 u∧m.get 4=I6 i∧0≤u∧u≤60*i∧h1=h'∧N+1=n') 6 ?_ ?_
 ·refine⟨0,0,by omega,by omega,?_⟩
  simp(maxSteps:=2000000) (disch:=first |omega |assumption) only[go_sem, *]
 ·rintro t m h' n' ih ⟨i,u,hi,rfl,q1,q2,q3,q4,q5,q6,q7,rfl,rfl⟩
  by_cases hlt:i<6
  ·have e6:(i:Int)<6:=by omega
   have ha:=hat i hlt
   generalize [t0,t1,t2,t3,t4,t5].getD i 0=x at ha
   clear hat
   have hi1:(i:Int)+1=((i+1:Nat):Int):=by omega
   by_cases hx:60<x
   ·repeat' first |simp(maxSteps:=2000000) (disch:=first |omega |assumption) only[go_sem, *] | (apply xs<;>intro _)<;>try omega
    exact⟨⟨_,rfl⟩,by omega⟩
   ·by_cases hx0:0≤x
    ·repeat' first |simp(maxSteps:=2000000) (disch:=first |omega |assumption) only[go_sem, *] | (apply xs<;>intro _)<;>try omega
     refine ih (6-(i+1)) _ _ _ (by omega) ⟨i+1,u+x,by omega,rfl,?_⟩
     simp(maxSteps:=2000000) (disch:=first |omega |assumption) only[go_sem, *]
     exact⟨by rw[if_neg (show ¬0>x by omega)],by omega,by omega⟩
    ·repeat' first |simp(maxSteps:=2000000) (disch:=first |omega |assumption) only[go_sem, *] | (apply xs<;>intro _)<;>try omega
     refine ih (6-(i+1)) _ _ _ (by omega) ⟨i+1,u,by omega,rfl,?_⟩
     simp(maxSteps:=2000000) (disch:=first |omega |assumption) only[go_sem, *]
     exact⟨by rw[if_pos (show 0>x by omega),Int.add_zero],by omega⟩
  ·have e6: ¬ (i:Int)<6:=by omega
   by_cases c:u≤60
   ·repeat' first |simp(maxSteps:=2000000) (disch:=first |omega |assumption) only[go_sem, *] | (apply xs<;>intro _)<;>try omega
    exact⟨⟨_,rfl⟩,by omega⟩
   ·repeat' first |simp(maxSteps:=2000000) (disch:=first |omega |assumption) only[go_sem, *] | (apply xs<;>intro _)<;>try omega
    exact⟨⟨_,rfl⟩,by omega⟩
end Go.Proofs.YtofmbmclopgldaaGreat
set_option linter.unusedVariables false
set_option linter.unusedSimpArgs false
namespace Go.Proofs.YtofmbmclopgldaaGreat
open Go.Am
theorem Bs.start {sl en:Int} {h1 h:PT ak} {n1 n sz lb:Nat} {V:Int} {l:cK} {d:Rl→Nat} {C:Rl→Option ak} (S:St h n d C) (N:U1 sl en h1 n1 d C lb l) (hl:(tI (pt lb)).look h1=some l) (hn:wW l V sz):
  ∃ p5 p6,Bs h1 n1 lb l (.slice none 0 0) (.slice none 0 0) p5 p6 0 0 (List.replicate (l.H.length+1) 0) d C h n:=by
 obtain⟨F,M,B,-,-⟩:=N
 have I:=hn.KR
 have e9:=hn.p9
 have z2:=hn.RE
 have i5:=I.p5
 have i6:=I.p6
 have i9:=I.p9
 have n12:n1≤n:=by
  have:=F.lo _ _ (by decide) M.mem
  have:=S.lt M.mem
  omega
 have hr:∀ u,(List.replicate (l.H.length+1) (0:Int)).getD u 0=0:=fun u=>by
  simp only[List.getD,List.getElem?_replicate];split<;>rfl
 have hr2:∀ u,(List.replicate l.H.length (0:Int)).getD u 0=0:=fun u=>by
  simp only[List.getD,List.getElem?_replicate];split<;>rfl
 refine⟨(l.P.getD 5 0).toNat,(l.P.getD 6 0).toNat,jH l,fun k=>oY l.H ((k:Int)+1) 1,fun _=>0,[],0,List.replicate l.H.length 0,[],0,⟨n12,S,F,⟨[],M⟩,B,HX.init (by omega) (by omega) rfl,by omega,by omega,by omega,I.len,hl,by rw[List.length_replicate]⟩,?_⟩
 refine⟨by rw[List.length_replicate],hr 0,fun u=>by rw[hr];decide,I.len,by rw[List.length_replicate],fun j t _ _=>hr t,⟨by simp,by simp,by simp,by simp,by simp⟩,fun x=>⟨fun ⟨e,he,_⟩=>by simp at he,fun ⟨u,_,_,_,h4⟩=>absurd (hr u) h4⟩,fun u=>by rw[hr2];exact⟨Int.le_refl _,Int.le_refl _⟩,fun u _ _=>?_,fun u i v _ _ hf=>by simp[bg] at hf⟩
 rw[hr]
 exact .inl rfl
end Go.Proofs.YtofmbmclopgldaaGreat
set_option linter.unusedVariables false
set_option linter.unusedSimpArgs false
namespace Go.Proofs.YtofmbmclopgldaaGreat
open Go.Am
structure InL (h3:PT ak) (n3 lb:Nat) (l:cK) (p5 p6:Nat) (b:Int) (k:Nat) (K:List Int) (bb kb:Nat) (X:Nat→List Int) (d:Rl→Nat) (C:Rl→Option ak) (h:PT ak) (n:Nat):Prop where
 bs:Bs h3 n3 lb l (.slice none 0 0) (.slice none 0 0) p5 p6 b k K d C h n
 c94:C (94,0)=row (K.map (.int .i64))
 dbb:d (70,0)=bb
 dkb:d (94,0)=kb
 rows:∀ a,91≤a→a≤93→0<(X a).length→C (a,0)=row ((X a).map (.int .i64))
def upX (X:Nat→List Int) (a:Nat) (x:Int) (c:Nat):List Int:=if c=a then X a++[x] else X c
theorem Bs.adn {h1 h:PT ak} {n1 n lb:Nat} {l:cK} {mk ev:Value} {p5 p6 k:Nat} {d:Rl→Nat} {C:Rl→Option ak} {K:List Int} {b:Int} (H:Bs h1 n1 lb l mk ev p5 p6 b k K d C h n):∃ v0 v1 v3 v4 v5 v6 v7 v8 w0 w1 w2 w3 w5 pb rr xk X,h.get (d (70,0))=row [v0,v1,pt pb,v3,v4,v5,v6,v7,v8]∧d (70,0)<n∧pb<n∧rr<n∧h.get pb=row [w0,w1,w2,w3,.map (some rr),w5]∧h.get rr=some (.map (bP .i64 X) xk)∧kY X xk∧cj X=xm (fun k=>decide (k≠0)) K l.H.length:=by
 obtain⟨W,stk,tag,X,xk,G,R,rk,⟨P1,S,F,M,B,K0,e5,e6,hp,hH,hlk,zK⟩,I⟩:=H
 exact⟨_,_,_,_,_,_,_,_,_,_,_,_,_,_,_,_,X,S.at B.base,S.lt B.base,S.lt B.pool,S.lt B.out,S.at B.pool,S.at B.out,I.ox,I.MU⟩
end Go.Proofs.YtofmbmclopgldaaGreat
