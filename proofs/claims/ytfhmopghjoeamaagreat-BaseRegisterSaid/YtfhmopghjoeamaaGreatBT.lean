/-
  A part of the proof: contracts of inner functions.
-/
import Derived.Test.YtfhmopghjoeamaaGreatBR
set_option linter.unusedVariables false
set_option linter.unusedSimpArgs false
namespace Go.Proofs.YtfhmopghjoeamaaGreat
open Go.Am
structure Ny (n:Nat) (d:Rl→Nat) (C:Rl→Option aj) (X:List Nat) (W':List Int) (k':Nat) (d':Rl→Nat) (C':Rl→Option aj) (h':PT aj) (n':Nat):Prop where
 le:n≤n'
 st:St h' n' d' C'
 fz:∀ h1 n1,n1≤n→Fz h1 n1 d C→Fz h1 n1 d' C'
 mem:∃ L',kR d' C' W' L' k'
 dM:d' rM=d rM
 fr:∀ a b,2<a→a∉X→d' (a,b)=d (a,b)∧C' (a,b)=C (a,b)
theorem Nx.y {n n1:Nat} {d d1:Rl→Nat} {C C1:Rl→Option aj} {X Y:List Nat} {W1:List Int} {k1:Nat} {h1:PT aj} (a:Nx n d C X W1 k1 d1 C1 h1 n1) (h:∀ x∈X,x∈Y):Ny n d C Y W1 k1 d1 C1 h1 n1:=
 ⟨a.le,a.st,a.fz,a.mem,a.dM,fun c e q hx=>⟨a.dd c e q,a.cc c e q fun q2=>hx (h c q2)⟩⟩
theorem Ny.trans {n n1 n2:Nat} {d d1 d2:Rl→Nat} {C C1 C2:Rl→Option aj} {X:List Nat} {W1 W2:List Int} {k1 k2:Nat} {h1 h2:PT aj} (a:Ny n d C X W1 k1 d1 C1 h1 n1) (b:Ny n1 d1 C1 X W2 k2 d2 C2 h2 n2):Ny n d C X W2 k2 d2 C2 h2 n2:=
 ⟨Nat.le_trans a.le b.le,b.st,fun h n h1 F=>b.fz h n (Nat.le_trans h1 a.le) (a.fz h n h1 F),b.mem,b.dM.trans a.dM,fun c e h hx=>⟨(b.fr c e h hx).1.trans (a.fr c e h hx).1,(b.fr c e h hx).2.trans (a.fr c e h hx).2⟩⟩
theorem Ny.sub {n n1:Nat} {d d1:Rl→Nat} {C C1:Rl→Option aj} {X Y:List Nat} {W1:List Int} {k1:Nat} {h1:PT aj} (a:Ny n d C X W1 k1 d1 C1 h1 n1) (h:∀ x∈X,x∈Y):Ny n d C Y W1 k1 d1 C1 h1 n1:=
 ⟨a.le,a.st,a.fz,a.mem,a.dM,fun c e q hx=>a.fr c e q fun q2=>hx (h c q2)⟩
theorem Ny.op {h':PT aj} {n n' p q:Nat} {d:Rl→Nat} {C:Rl→Option aj} {W:List Int} {L:List Value} {k:Nat} {A B:Option aj} (M:kR d C W L k) (hn:n≤n') (hp:n≤p) (hq:n≤q) (S':St h' n' (upd (upd d (80,0) p) (81,0) q) (upd (upd C (80,0) A) (81,0) B)):
  Ny n d C [80,81] W k (upd (upd d (80,0) p) (81,0) q) (upd (upd C (80,0) A) (81,0) B) h' n':=
 ⟨hn,S',fun h1 n1 c F=>(F.new (a:=80) (by decide) (by omega) _).new (a:=81) (by decide) (by omega) _,⟨_,M.of fun a ha=>⟨(aq (by omega)).trans (aq (by omega)),(aq (by omega)).trans (aq (by omega))⟩⟩,(aq (by decide)).trans (aq (by decide)),fun a b h hx=>by
  simp only[List.mem_cons,List.not_mem_nil,or_false,not_or] at hx
  exact⟨(aq hx.2).trans (aq hx.1),(aq hx.2).trans (aq hx.1)⟩⟩
theorem H_.move {d d':Rl→Nat} {C C':Rl→Option aj} {lb:Nat} {l:bZ} {mk ev:Value} {R:List bp} {rk:Nat} {X X':List bp} {xk Pv:Nat} {G G':List Int} (B:H_ d C lb l mk ev R rk X xk G) (hM:d' rM=d rM) (fr:∀ a b,2<a→a≠76→a≠77→a≠80→a≠81→d' (a,b)=d (a,b)∧C' (a,b)=C (a,b)) (d6:d' (76,0)=d (76,0)) (d7:d' (77,0)=d (77,0)) (c6:C' (76,0)=some (.map (bA .i64 X') Pv)) (c7:C' (77,0)=row (G'.map (.int .i64))) (hG:G'.length=G.length):H_ d' C' lb l mk ev R rk X' Pv G':=by
 obtain⟨b1,b2,b3,b4,b5,b6,b7⟩:=B
 have q:=fun a (h:2<a) h6 h7 h8 h9=>fr a 0 h h6 h7 h8 h9
 refine⟨?_,?_,?_,c6,c7,?_,?_⟩
 ·rw[(q 70 (by decide) (by decide) (by decide) (by decide) (by decide)).2,b1,hM,(q 75 (by decide) (by decide) (by decide) (by decide) (by decide)).1,(q 78 (by decide) (by decide) (by decide) (by decide) (by decide)).1,(q 4 (by decide) (by decide) (by decide) (by decide) (by decide)).1,(q 73 (by decide) (by decide) (by decide) (by decide) (by decide)).1,(q 74 (by decide) (by decide) (by decide) (by decide) (by decide)).1]
 ·rw[(q 74 (by decide) (by decide) (by decide) (by decide) (by decide)).2];exact b2
 ·rw[(q 75 (by decide) (by decide) (by decide) (by decide) (by decide)).2,b3,hM,d6,d7,hG]
 ·rw[(q 78 (by decide) (by decide) (by decide) (by decide) (by decide)).2,b6,hM]
 ·obtain⟨v,hv⟩:=b7
  exact⟨v,by rw[(q 73 (by decide) (by decide) (by decide) (by decide) (by decide)).2];exact hv⟩
structure Po (h1:PT aj) (n1 lb:Nat) (l:bZ) (mk ev:Value) (p5 p6:Nat) (W:List Int) (stk:Nat→List Nat) (tag:Nat→Int) (X:List bp) (xk:Nat) (G:List Int) (R:List bp) (rk k:Nat) (d:Rl→Nat) (C:Rl→Option aj) (h:PT aj) (n:Nat):Prop where
 le:n1≤n
 st:St h n d C
 fz:Fz h1 n1 d C
 mem:∃ L,kR d C W L k
 obj:H_ d C lb l mk ev R rk X xk G
 W7:DI p5 p6 l.H.length l.H W stk tag
 e5:l.P.getD 5 0=p5
 e6:l.P.getD 6 0=p6
 hp:p6≤60000
 hH:l.H.length≤1024
 look:(rB (pt lb)).look h1=some l
 hG:G.length=l.H.length
theorem Po.move {h1 h h':PT aj} {n1 n n' lb:Nat} {l:bZ} {mk ev:Value} {p5 p6:Nat} {W W':List Int} {stk Pw:Nat→List Nat} {tag tag':Nat→Int} {X X':List bp} {xk Pv:Nat} {G G':List Int} {R:List bp} {rk k k':Nat} {d d':Rl→Nat} {C C':Rl→Option aj} {Y:List Nat} (P:Po h1 n1 lb l mk ev p5 p6 W stk tag X xk G R rk k d C h n)
  (N:Ny n d C Y W' k' d' C' h' n') (hY:∀ a∈Y,a=76∨a=77∨a=80∨a=81) (K:DI p5 p6 l.H.length l.H W' Pw tag') (d6:d' (76,0)=d (76,0)) (d7:d' (77,0)=d (77,0)) (c6:C' (76,0)=some (.map (bA .i64 X') Pv)) (c7:C' (77,0)=row (G'.map (.int .i64))) (hG:G'.length=G.length):d' (70,0)=d (70,0)∧(∀ a,90≤a→a≤99→d' (a,0)=d (a,0)∧C' (a,0)=C (a,0))∧Po h1 n1 lb l mk ev p5 p6 W' Pw tag' X' Pv G' R rk k' d' C' h' n':=by
 obtain⟨P1,S,F,M,B,K0,e5,e6,hp,hH,hlk,wz⟩:=P
 have fr:∀ a b,2<a→a≠76→a≠77→a≠80→a≠81→d' (a,b)=d (a,b)∧C' (a,b)=C (a,b):=fun a b h h6 h7 h8 h9=>N.fr a b h fun q=>by have:=hY a q;omega
 exact⟨(fr 70 0 (by decide) (by decide) (by decide) (by decide) (by decide)).1,fun a h9 Pg=>fr a 0 (by omega) (by omega) (by omega) (by omega) (by omega),Nat.le_trans P1 N.le,N.st,N.fz _ _ P1 F,N.mem,B.move N.dM fr d6 d7 c6 c7 hG,K,e5,e6,hp,hH,hlk,hG.trans wz⟩
set_option maxRecDepth 100000 in
theorem DQ {h:PT aj} {n pb tb mp:Nat} {th t hd w bl fl tr e:Int} (g:h.get tb=row (sH pb th t hd w 0 mp bl fl tr e)):
  cT Tryz.prog OB 58 [pt tb] h n fun r h' n'=>r=oF [U8 0,.bool false]∧h'=h∧n'=n:=by
 unfold sH at g
 refine aB (N:=24) Tryz.func58 rfl rfl fun z hP hO hro hN hQ=>?_
 repeat' first |simp(maxSteps:=2000000) (disch:=first |omega |assumption) only[go_sem, *] | (apply xs<;>intro _)<;>try omega | ((with_reducible refine dA 5 ?_);refine dw 24 5 qE (by first | (simp only[go_sem, *];done) |rfl) (by kernel_rfl) (by kernel_rfl) ?_) |refine fun (_ _:List Nat)=>?_ | (first |refine aC Tryz.func98 rfl ?_ ?_ ?_ ?_ |refine aC Tryz.func132 rfl ?_ ?_ ?_ ?_ |fail)<;>intros
set_option maxRecDepth 100000 in
set_option maxHeartbeats 16000000 in
theorem Ks {h1 h:PT aj} {n1 n lb:Nat} {l:bZ} {mk ev:Value} {p5 p6:Nat} {W:List Int} {stk:Nat→List Nat} {tag:Nat→Int} {X:List bp} {xk:Nat} {G:List Int} {R:List bp} {rk k j:Nat} {d:Rl→Nat} {C:Rl→Option aj} (P:Po h1 n1 lb l mk ev p5 p6 W stk tag X xk G R rk k d C h n) (hk:k≤90000) (hj:j<6) (he:stk j=[]):
  cT Tryz.prog OB 28 [pt (d (70,0)),.bool true,I6 ((j:Int)+1)] h n fun r h' n'=>r=I6 0∧∃ d' C',d' (70,0)=d (70,0)∧(∀ a,90≤a→a≤99→d' (a,0)=d (a,0)∧C' (a,0)=C (a,0))∧Po h1 n1 lb l mk ev p5 p6 W stk tag X xk G R rk (k+1) d' C' h' n':=by
 obtain⟨P1,S,F,⟨L,M⟩,B,K,e5,e6,hp,hH,hlk,hG⟩:=P
 have g0:=S.at B.base
 have b3:=B.pool
 rw[e5,e6] at b3
 have hh:=K.head j hj
 have Kt:=K.tag j hj
 rw[he] at hh
 have hlt:p5+j<W.length:=(List.getElem?_eq_some_iff.1 hh).1
 have hv:W[p5+j]=65536*tag j:=by have:=(List.getElem?_eq_some_iff.1 hh).2;simp only[A_] at this;omega
 have tk:=Ib S b3 (th:=0) (x:=(j:Int)+1) ⟨by omega,by omega⟩ ⟨by omega,by omega⟩ ⟨by omega,by have:=K.h6;omega⟩
 refine aB (N:=63) Tryz.func28 rfl rfl fun z hP hO hro hN hQ=>?_
 repeat' first |simp(maxSteps:=2000000) (disch:=first |omega |assumption) only[go_sem, *] | (apply xs<;>intro _)<;>try omega | ((with_reducible refine dA 5 ?_);refine dw 28 5 eU (by first | (simp only[go_sem, *];done) |rfl) (by kernel_rfl) (by kernel_rfl) ?_) |refine fun (_ _:List Nat)=>?_ | (first |refine aC Tryz.func17 rfl ?_ ?_ ?_ ?_ |refine aC Tryz.func59 rfl ?_ ?_ ?_ ?_ |fail)<;>intros
 refine fL (tk) (by simp only[*]) (by simp only[*]) (by simp only[go_sem, *]) (by simp only[go_sem, *]) ?_
 rintro r h2 n2 ⟨p,q,q1,q2,q3,rfl,S2⟩
 have N0:=Ny.op M (by omega) q2 q1 S2
 obtain⟨d2,C2,N2,DR,Ku,d80,d81⟩:∃ d2 C2,Ny n d C [80,81] W k d2 C2 h2 n2∧C2 (80,0)=row (sH (d (75,0)) 0 0 (p5+(j+1)-1) 0 4 q 0 0 0 0)∧C2 (81,0)=some (.map (bA .u8 GF) 3)∧d2 (80,0)=p∧d2 (81,0)=q:=⟨_,_,N0,(aq (by decide)).trans au,au,(aq (by decide)).trans au,au⟩
 subst d80 d81
 clear S2 tk N0
 have f75:=N2.fr 75 0 (by decide) (by simp)
 have Ey:=f75.2.trans b3
 rw[←N2.dM] at Ey
 rw[←f75.1] at DR
 obtain⟨L2,M2⟩:=N2.mem
 rw[show ((p5:Int)+((j:Int)+1)-1)=((p5+j:Nat):Int) by omega] at DR
 have Ig:=DP N2.st M2 Ey DR Ku rfl ⟨by omega,by omega⟩ hlt (by omega) (by rw[hv];omega)
 have hz:(65536*tag j).tmod 65536=0:=by have:=(mV (t:=0) (g:=tag j) ⟨by omega,by omega⟩ Kt.1).2;rwa [Int.zero_add] at this
 rw[hv,if_pos hz] at Ig
 repeat' first |simp(maxSteps:=2000000) (disch:=first |omega |assumption) only[go_sem, *] | (apply xs<;>intro _)<;>try omega | ((with_reducible refine dA 5 ?_);refine dw 28 5 eU (by first | (simp only[go_sem, *];done) |rfl) (by kernel_rfl) (by kernel_rfl) ?_) |refine fun (_ _:List Nat)=>?_ | (first |refine aC Tryz.func17 rfl ?_ ?_ ?_ ?_ |refine aC Tryz.func59 rfl ?_ ?_ ?_ ?_ |fail)<;>intros
 rw[ct]
 repeat' first |simp(maxSteps:=2000000) (disch:=first |omega |assumption) only[go_sem, *] | (apply xs<;>intro _)<;>try omega | ((with_reducible refine dA 5 ?_);refine dw 28 5 eU (by first | (simp only[go_sem, *];done) |rfl) (by kernel_rfl) (by kernel_rfl) ?_) |refine fun (_ _:List Nat)=>?_ | (first |refine aC Tryz.func17 rfl ?_ ?_ ?_ ?_ |refine aC Tryz.func59 rfl ?_ ?_ ?_ ?_ |fail)<;>intros
 refine fL (Ig) (by simp only[*]) (by simp only[*]) (by simp only[go_sem, *]) (by simp only[go_sem, *]) ?_
 rintro r h3 n3 ⟨d3,C3,N3,Kv⟩
 have g3:=N3.st.at Kv
 rw[N3.dd 80 0 (by decide)] at g3
 repeat' first |simp(maxSteps:=2000000) (disch:=first |omega |assumption) only[go_sem, *] | (apply xs<;>intro _)<;>try omega | ((with_reducible refine dA 5 ?_);refine dw 28 5 eU (by first | (simp only[go_sem, *];done) |rfl) (by kernel_rfl) (by kernel_rfl) ?_) |refine fun (_ _:List Nat)=>?_ | (first |refine aC Tryz.func17 rfl ?_ ?_ ?_ ?_ |refine aC Tryz.func59 rfl ?_ ?_ ?_ ?_ |fail)<;>intros
 rw[ct]
 repeat' first |simp(maxSteps:=2000000) (disch:=first |omega |assumption) only[go_sem, *] | (apply xs<;>intro _)<;>try omega | ((with_reducible refine dA 5 ?_);refine dw 28 5 eU (by first | (simp only[go_sem, *];done) |rfl) (by kernel_rfl) (by kernel_rfl) ?_) |refine fun (_ _:List Nat)=>?_ | (first |refine aC Tryz.func17 rfl ?_ ?_ ?_ ?_ |refine aC Tryz.func59 rfl ?_ ?_ ?_ ?_ |fail)<;>intros
 refine fL (DQ g3) (by simp only[*]) (by simp only[*]) (by simp only[go_sem, *]) (by simp only[go_sem, *]) ?_
 rintro r h4 n4 ⟨rfl,rfl,rfl⟩
 repeat' first |simp(maxSteps:=2000000) (disch:=first |omega |assumption) only[go_sem, *] | (apply xs<;>intro _)<;>try omega | ((with_reducible refine dA 5 ?_);refine dw 28 5 eU (by first | (simp only[go_sem, *];done) |rfl) (by kernel_rfl) (by kernel_rfl) ?_) |refine fun (_ _:List Nat)=>?_ | (first |refine aC Tryz.func17 rfl ?_ ?_ ?_ ?_ |refine aC Tryz.func59 rfl ?_ ?_ ?_ ?_ |fail)<;>intros
 rw[ct]
 repeat' first |simp(maxSteps:=2000000) (disch:=first |omega |assumption) only[go_sem, *] | (apply xs<;>intro _)<;>try omega | ((with_reducible refine dA 5 ?_);refine dw 28 5 eU (by first | (simp only[go_sem, *];done) |rfl) (by kernel_rfl) (by kernel_rfl) ?_) |refine fun (_ _:List Nat)=>?_ | (first |refine aC Tryz.func17 rfl ?_ ?_ ?_ ?_ |refine aC Tryz.func59 rfl ?_ ?_ ?_ ?_ |fail)<;>intros
 refine fL (DQ g3) (by simp only[*]) (by simp only[*]) (by simp only[go_sem, *]) (by simp only[go_sem, *]) ?_
 rintro r h4 n4 ⟨rfl,rfl,rfl⟩
 repeat' first |simp(maxSteps:=2000000) (disch:=first |omega |assumption) only[go_sem, *] | (apply xs<;>intro _)<;>try omega | ((with_reducible refine dA 5 ?_);refine dw 28 5 eU (by first | (simp only[go_sem, *];done) |rfl) (by kernel_rfl) (by kernel_rfl) ?_) |refine fun (_ _:List Nat)=>?_ | (first |refine aC Tryz.func17 rfl ?_ ?_ ?_ ?_ |refine aC Tryz.func59 rfl ?_ ?_ ?_ ?_ |fail)<;>intros
 rw[ct]
 unfold sH at g3
 repeat' first |simp(maxSteps:=2000000) (disch:=first |omega |assumption) only[go_sem, *] | (apply xs<;>intro _)<;>try omega | ((with_reducible refine dA 5 ?_);refine dw 28 5 eU (by first | (simp only[go_sem, *];done) |rfl) (by kernel_rfl) (by kernel_rfl) ?_) |refine fun (_ _:List Nat)=>?_ | (first |refine aC Tryz.func17 rfl ?_ ?_ ?_ ?_ |refine aC Tryz.func59 rfl ?_ ?_ ?_ ?_ |fail)<;>intros
 have N:=N2.trans (N3.y (Y:=[80,81]) (by simp))
 have x6:=N.fr 76 0 (by decide) (by simp)
 have x7:=N.fr 77 0 (by decide) (by simp)
 exact⟨_,_,Po.move ⟨P1,S,F,⟨L,M⟩,B,K,e5,e6,hp,hH,hlk,hG⟩ N (by simp) K x6.1 x7.1 (x6.2.trans B.out) (x7.2.trans B.DG) rfl⟩
set_option maxRecDepth 100000 in
set_option maxHeartbeats 16000000 in
theorem Kw {h1 h:PT aj} {n1 n lb:Nat} {l:bZ} {mk ev:Value} {p5 p6:Nat} {W:List Int} {stk:Nat→List Nat} {tag:Nat→Int} {X:List bp} {xk:Nat} {G:List Int} {R:List bp} {rk k j a:Nat} {r:List Nat} {d:Rl→Nat} {C:Rl→Option aj} (P:Po h1 n1 lb l mk ev p5 p6 W stk tag X xk G R rk k d C h n) (hk:k≤90000) (hj:j<6) (he:stk j=a::r) (hX:∀ e∈X,e.1≠(a:Int)):
  cT Tryz.prog OB 28 [pt (d (70,0)),.bool true,I6 ((j:Int)+1)] h n fun v h' n'=>v=I6 a∧∃ W' d' C',d' (70,0)=d (70,0)∧(∀ a,90≤a→a≤99→d' (a,0)=d (a,0)∧C' (a,0)=C (a,0))∧Po h1 n1 lb l mk ev p5 p6 W' (Ba stk j r) (Ba tag j ((tag j+1)%1099511627776)) (X++[((a:Int),.bool false,xk)]) (xk+1) G R rk (k+3) d' C' h' n':=by
 obtain⟨P1,S,F,⟨L,M⟩,B,K,e5,e6,hp,hH,hlk,hG⟩:=P
 have g0:=S.at B.base
 have b3:=B.pool
 rw[e5,e6] at b3
 have hh:=K.head j hj
 have Kt:=K.tag j hj
 rw[he] at hh
 have hlt:p5+j<W.length:=(List.getElem?_eq_some_iff.1 hh).1
 have hv:W[p5+j]=(a:Int)+65536*tag j:=(List.getElem?_eq_some_iff.1 hh).2
 have ha:=K.mem j a hj (by rw[he];simp)
 have Kx:=K.link j hj
 rw[he] at Kx
 have Px:p6+a-1<W.length:=(List.getElem?_eq_some_iff.1 Kx.1).1
 have ME:W[p6+a-1]=A_ r:=(List.getElem?_eq_some_iff.1 Kx.1).2
 obtain⟨b,hb,rF⟩:∃ b:Nat,A_ r=b∧b≤1024:=by
  cases r with
  |nil=>exact⟨0,rfl,by omega⟩
  |cons b r=>exact⟨b,rfl,by have:=(K.mem j b hj (by rw[he];simp)).2.1;omega⟩
 have K2:=K.take hj he (g:=(tag j+1)%1099511627776) (by omega)
 rw[hb] at ME K2
 have h56:=K.h6
 have tk:=Ib S b3 (th:=0) (x:=(j:Int)+1) ⟨by omega,by omega⟩ ⟨by omega,by omega⟩ ⟨by omega,by omega⟩
 refine aB (N:=63) Tryz.func28 rfl rfl fun z hP hO hro hN hQ=>?_
 repeat' first |simp(maxSteps:=2000000) (disch:=first |omega |assumption) only[go_sem, *] | (apply xs<;>intro _)<;>try omega | ((with_reducible refine dA 5 ?_);refine dw 28 5 eU (by first | (simp only[go_sem, *];done) |rfl) (by kernel_rfl) (by kernel_rfl) ?_) |refine fun (_ _:List Nat)=>?_ | (first |refine aC Tryz.func17 rfl ?_ ?_ ?_ ?_ |refine aC Tryz.func59 rfl ?_ ?_ ?_ ?_ |fail)<;>intros
 refine fL (tk) (by simp only[*]) (by simp only[*]) (by simp only[go_sem, *]) (by simp only[go_sem, *]) ?_
 rintro r h2 n2 ⟨p,q,q1,q2,q3,rfl,S2⟩
 have N0:=Ny.op M (by omega) q2 q1 S2
 obtain⟨d2,C2,N2,DR,Ku,d80,d81⟩:∃ d2 C2,Ny n d C [80,81] W k d2 C2 h2 n2∧C2 (80,0)=row (sH (d (75,0)) 0 0 (p5+(j+1)-1) 0 4 q 0 0 0 0)∧C2 (81,0)=some (.map (bA .u8 GF) 3)∧d2 (80,0)=p∧d2 (81,0)=q:=⟨_,_,N0,(aq (by decide)).trans au,au,(aq (by decide)).trans au,au⟩
 subst d80 d81
 clear S2 tk N0
 have f75:=N2.fr 75 0 (by decide) (by simp)
 have Ey:=f75.2.trans b3
 have f76:=N2.fr 76 0 (by decide) (by simp)
 have W8:=f76.2.trans B.out
 rw[←N2.dM,←f76.1] at Ey
 rw[←f75.1] at DR
 obtain⟨L2,M2⟩:=N2.mem
 rw[show ((p5:Int)+((j:Int)+1)-1)=((p5+j:Nat):Int) by omega] at DR
 have Ig:=DP N2.st M2 Ey DR Ku rfl ⟨by omega,by omega⟩ hlt (by omega) (by rw[hv];omega)
 have hz:=(mV (t:=(a:Int)) (g:=tag j) ⟨by omega,by omega⟩ Kt.1).2
 rw[hv,hz,if_neg (by omega)] at Ig
 repeat' first |simp(maxSteps:=2000000) (disch:=first |omega |assumption) only[go_sem, *] | (apply xs<;>intro _)<;>try omega | ((with_reducible refine dA 5 ?_);refine dw 28 5 eU (by first | (simp only[go_sem, *];done) |rfl) (by kernel_rfl) (by kernel_rfl) ?_) |refine fun (_ _:List Nat)=>?_ | (first |refine aC Tryz.func17 rfl ?_ ?_ ?_ ?_ |refine aC Tryz.func59 rfl ?_ ?_ ?_ ?_ |fail)<;>intros
 rw[ct]
 repeat' first |simp(maxSteps:=2000000) (disch:=first |omega |assumption) only[go_sem, *] | (apply xs<;>intro _)<;>try omega | ((with_reducible refine dA 5 ?_);refine dw 28 5 eU (by first | (simp only[go_sem, *];done) |rfl) (by kernel_rfl) (by kernel_rfl) ?_) |refine fun (_ _:List Nat)=>?_ | (first |refine aC Tryz.func17 rfl ?_ ?_ ?_ ?_ |refine aC Tryz.func59 rfl ?_ ?_ ?_ ?_ |fail)<;>intros
 refine fL (Ig) (by simp only[*]) (by simp only[*]) (by simp only[go_sem, *]) (by simp only[go_sem, *]) ?_
 rintro r h3 n3 ⟨d3,C3,N3,Kv⟩
 obtain⟨L3,M3⟩:=N3.mem
 have dM3:=N3.dM
 have Ky:=(N3.cc 75 0 (by decide) (by simp)).trans Ey
 have Py:=(N3.cc 81 0 (by decide) (by simp)).trans Ku
 have W9:=(N3.cc 76 0 (by decide) (by simp)).trans W8
 rw[←dM3,←N3.dd 76 0 (by decide)] at Ky
 rw[←N3.dd 75 0 (by decide),←N3.dd 81 0 (by decide)] at Kv
 have Pz:=GG N3.st M3 Ky Kv Py rfl ⟨by omega,by omega⟩ ⟨by omega,by omega⟩ ⟨by omega,by omega⟩ (a:=p6+a-1) (by omega) Px (by omega) (by rw[ME];omega)
 rw[ME,N3.dd 80 0 (by decide)] at Pz
 repeat' first |simp(maxSteps:=2000000) (disch:=first |omega |assumption) only[go_sem, *] | (apply xs<;>intro _)<;>try omega | ((with_reducible refine dA 5 ?_);refine dw 28 5 eU (by first | (simp only[go_sem, *];done) |rfl) (by kernel_rfl) (by kernel_rfl) ?_) |refine fun (_ _:List Nat)=>?_ | (first |refine aC Tryz.func17 rfl ?_ ?_ ?_ ?_ |refine aC Tryz.func59 rfl ?_ ?_ ?_ ?_ |fail)<;>intros
 rw[ct]
 repeat' first |simp(maxSteps:=2000000) (disch:=first |omega |assumption) only[go_sem, *] | (apply xs<;>intro _)<;>try omega | ((with_reducible refine dA 5 ?_);refine dw 28 5 eU (by first | (simp only[go_sem, *];done) |rfl) (by kernel_rfl) (by kernel_rfl) ?_) |refine fun (_ _:List Nat)=>?_ | (first |refine aC Tryz.func17 rfl ?_ ?_ ?_ ?_ |refine aC Tryz.func59 rfl ?_ ?_ ?_ ?_ |fail)<;>intros
 refine fL (Pz) (by simp only[*]) (by simp only[*]) (by simp only[go_sem, *]) (by simp only[go_sem, *]) ?_
 rintro r h4 n4 ⟨d4,C4,N4,PA⟩
 obtain⟨L4,M4⟩:=N4.mem
 have PB:=(N4.cc 75 0 (by decide) (by simp)).trans Ky
 have W_:=(N4.cc 81 0 (by decide) (by simp)).trans Py
 have Xa:=(N4.cc 76 0 (by decide) (by simp)).trans W9
 rw[←N4.dM,←N4.dd 76 0 (by decide)] at PB
 rw[←N4.dd 75 0 (by decide),←N4.dd 81 0 (by decide)] at PA
 have PD:=Kn N4.st M4 PB PA W_ Xa rfl ⟨by omega,by omega⟩ hlt (by omega) hv ⟨by omega,by omega⟩ Kt rF hX
 rw[N4.dd 80 0 (by decide),N3.dd 80 0 (by decide)] at PD
 repeat' first |simp(maxSteps:=2000000) (disch:=first |omega |assumption) only[go_sem, *] | (apply xs<;>intro _)<;>try omega | ((with_reducible refine dA 5 ?_);refine dw 28 5 eU (by first | (simp only[go_sem, *];done) |rfl) (by kernel_rfl) (by kernel_rfl) ?_) |refine fun (_ _:List Nat)=>?_ | (first |refine aC Tryz.func17 rfl ?_ ?_ ?_ ?_ |refine aC Tryz.func59 rfl ?_ ?_ ?_ ?_ |fail)<;>intros
 rw[ct]
 repeat' first |simp(maxSteps:=2000000) (disch:=first |omega |assumption) only[go_sem, *] | (apply xs<;>intro _)<;>try omega | ((with_reducible refine dA 5 ?_);refine dw 28 5 eU (by first | (simp only[go_sem, *];done) |rfl) (by kernel_rfl) (by kernel_rfl) ?_) |refine fun (_ _:List Nat)=>?_ | (first |refine aC Tryz.func17 rfl ?_ ?_ ?_ ?_ |refine aC Tryz.func59 rfl ?_ ?_ ?_ ?_ |fail)<;>intros
 refine fL (PD) (by simp only[*]) (by simp only[*]) (by simp only[go_sem, *]) (by simp only[go_sem, *]) ?_
 rintro r h5 n5 ⟨d5,C5,N5,w80,Tk⟩
 have g5:=N5.st.at w80
 rw[N5.dd 80 0 (by decide),N4.dd 80 0 (by decide),N3.dd 80 0 (by decide)] at g5
 repeat' first |simp(maxSteps:=2000000) (disch:=first |omega |assumption) only[go_sem, *] | (apply xs<;>intro _)<;>try omega | ((with_reducible refine dA 5 ?_);refine dw 28 5 eU (by first | (simp only[go_sem, *];done) |rfl) (by kernel_rfl) (by kernel_rfl) ?_) |refine fun (_ _:List Nat)=>?_ | (first |refine aC Tryz.func17 rfl ?_ ?_ ?_ ?_ |refine aC Tryz.func59 rfl ?_ ?_ ?_ ?_ |fail)<;>intros
 rw[ct]
 unfold sH at g5
 repeat' first |simp(maxSteps:=2000000) (disch:=first |omega |assumption) only[go_sem, *] | (apply xs<;>intro _)<;>try omega | ((with_reducible refine dA 5 ?_);refine dw 28 5 eU (by first | (simp only[go_sem, *];done) |rfl) (by kernel_rfl) (by kernel_rfl) ?_) |refine fun (_ _:List Nat)=>?_ | (first |refine aC Tryz.func17 rfl ?_ ?_ ?_ ?_ |refine aC Tryz.func59 rfl ?_ ?_ ?_ ?_ |fail)<;>intros
 have N:=((N2.sub (Y:=[80,81,76]) (by simp)).trans (N3.y (by simp))).trans ((N4.y (by simp)).trans (N5.y (by simp)))
 have x6:d5 (76,0)=d (76,0):=(N5.dd 76 0 (by decide)).trans ((N4.dd 76 0 (by decide)).trans ((N3.dd 76 0 (by decide)).trans f76.1))
 have x7:=N.fr 77 0 (by decide) (by simp)
 exact⟨_,_,_,Po.move ⟨P1,S,F,⟨L,M⟩,B,K,e5,e6,hp,hH,hlk,hG⟩ N (by simp) K2 x6 x7.1 Tk (x7.2.trans B.DG) rfl⟩
end Go.Proofs.YtfhmopghjoeamaaGreat
set_option linter.unusedVariables false
set_option linter.unusedSimpArgs false
namespace Go.Proofs.YtfhmopghjoeamaaGreat
open Go.Am
set_option maxRecDepth 100000 in
set_option maxHeartbeats 8000000 in
theorem PE {h h1:PT aj} {n n1 lb xk:Nat} {d:Rl→Nat} {C:Rl→Option aj} {l:bZ} {X:List bp} {mv p5 p6 gv:Value} {t:Int} (S:St h n d C) (F:Fz h1 n1 d C) (hl0:(rB (pt lb)).look h1=some l) (hH:l.H.length≤1024) (e1:C (75,0)=row [mv,pt lb,p5,p6,.map (some (d (76,0))),gv]) (e4:C (76,0)=some (.map (bA .i64 X) xk)) (hb: ¬ (1≤t∧t≤l.H.length)∨aT t X 0=none):
  cT Tryz.prog OB 60 [pt (d (75,0)),I6 0,I6 t] h n fun r h' n'=>(∃ e,e≠0∧r=oF [.pointer none,I6 e])∧h'=h∧n'=n:=by
 have g1:=S.at e1
 have g2:=S.at e4
 have VX:=S.lt e1
 have K:=F.kept S
 have Wf:=F.wf
 have hrl:=fun h' hk z f d ops r K m n=>@dg _ _ _ _ h' hl0 z f d ops r K m n hk
 have WJ:=fun h' hk z L f d ops r K m n lo rd wr fs=>@j7 _ _ _ _ h' hl0 z L f d ops r K m n lo rd wr fs hk
 clear hl0
 refine aB (N:=71) Tryz.func60 rfl rfl fun z hP hO hro hN hQ=>?_
 by_cases hin:1≤t∧t≤l.H.length
 ·have hf:aT t X 0=none:=hb.resolve_left (fun c=>c hin)
  have hg1:oT l.H t=0:=if_pos hin
  clear hb
  repeat' first |simp(maxSteps:=2000000) (disch:=first |omega | (repeat first |assumption |exact Kept.refl _ |refine Kept.set' (by assumption) ?_ ?_ |refine Kept.set (by assumption) ?_ ?_ |omega)) only[go_sem, *,cR,eo] | (apply xs<;>intro _)<;>try omega
  exact⟨_,by decide,rfl⟩
 ·have hg1:oT l.H t=3:=if_neg hin
  clear hb
  repeat' first |simp(maxSteps:=2000000) (disch:=first |omega | (repeat first |assumption |exact Kept.refl _ |refine Kept.set' (by assumption) ?_ ?_ |refine Kept.set (by assumption) ?_ ?_ |omega)) only[go_sem, *,cR,eo] | (apply xs<;>intro _)<;>try omega
  exact⟨_,by decide,rfl⟩
set_option maxRecDepth 100000 in
set_option maxHeartbeats 8000000 in
theorem gvB {h h1:PT aj} {n n1 lb xk j c0:Nat} {d:Rl→Nat} {C:Rl→Option aj} {l:bZ} {X:List bp} {mv p6 gv:Value} {t q5 x:Int} (S:St h n d C) (F:Fz h1 n1 d C) (hl0:(rB (pt lb)).look h1=some l) (hH:l.H.length≤1024) (e1:C (75,0)=row [mv,pt lb,I6 q5,p6,.map (some (d (76,0))),gv]) (e4:C (76,0)=some (.map (bA .i64 X) xk)) (hin:1≤t∧t≤l.H.length) (hX:aT t X 0=some (j,.bool false)) (hj:X[j]? = some (t,.bool false,c0)) (hx:l.H.getD (t-1).toNat 0=x) (hx6:1≤x∧x≤6) (h5:0≤q5∧q5≤100000):
  cT Tryz.prog OB 60 [pt (d (75,0)),I6 0,I6 t] h n fun r h' n'=>∃ p q,n≤q∧n≤p∧p<n'∧r=oF [pt p,I6 0]∧St h' n' (upd (upd d (80,0) p) (81,0) q) (upd (upd (upd C (76,0) (some (.map (bA .i64 (X.set j (t,.bool true,c0))) xk))) (80,0) (row (vU (d (75,0)) 0 t (q5+x-1) 0 4 q))) (81,0) (some (.map (bA .u8 Ie) 3))):=by
 have g1:=S.at e1
 have g2:=S.at e4
 have VX:=S.lt e1
 have qG:=S.lt e4
 have K:=F.kept S
 have Wf:=F.wf
 have lo1:=F.lo _ _ (by decide) e4
 have lo2:n1≤n:=by omega
 have hrl:=fun h' hk z f d ops r K m n=>@dg _ _ _ _ h' hl0 z f d ops r K m n hk
 have WJ:=fun h' hk z L f d ops r K m n lo rd wr fs=>@j7 _ _ _ _ h' hl0 z L f d ops r K m n lo rd wr fs hk
 have d16:=S.df e1 e4 (by decide)
 have hg1:oT l.H t=0:=if_pos hin
 have Ke:rC l.H t=x:=(if_pos hin).trans hx
 have hpe:cZ (.int .i64 t) (.bool true) (bA .i64 X) j=bA .i64 (X.set j (t,.bool true,c0)):=by rw[mN,hj]
 obtain⟨x1,x2⟩:=hx6
 obtain⟨y1,y2⟩:=h5
 obtain⟨t1,t2⟩:=hin
 clear hl0
 refine aB (N:=71) Tryz.func60 rfl rfl fun z hP hO hro hN hQ=>?_
 repeat' first |simp(maxSteps:=2000000) (disch:=first |omega | (repeat first |assumption |exact Kept.refl _ |refine Kept.set' (by assumption) ?_ ?_ |refine Kept.set (by assumption) ?_ ?_ |omega)) only[go_sem, *,cR,eo] | (apply xs<;>intro _)<;>try omega
 refine⟨n,n+1,by omega,by omega,by omega,rfl,?_⟩
 exact(((((((S.set (76,0) _ e4 rfl).new (80,0) _ (Nat.le_refl _) (Nat.lt_succ_self _)).new (81,0) _ (Nat.le_refl _) (Nat.lt_succ_self _)).set (81,0) _ au au).set (81,0) _ au au).set (81,0) _ au au).set (80,0) _ ((aq (by decide)).trans ((aq (by decide)).trans ((aq (by decide)).trans ((aq (by decide)).trans au)))) ((aq (by decide)).trans au)).eq (by simp only[gd];rw[vu (by decide),gd];rfl) rfl
set_option maxRecDepth 100000 in
set_option maxHeartbeats 8000000 in
theorem DS {h1 h:PT aj} {n1 n lb:Nat} {l:bZ} {mk ev:Value} {p5 p6:Nat} {W:List Int} {stk:Nat→List Nat} {tag:Nat→Int} {X:List bp} {xk:Nat} {G:List Int} {R:List bp} {rk k:Nat} {d:Rl→Nat} {C:Rl→Option aj} {t:Int} (P:Po h1 n1 lb l mk ev p5 p6 W stk tag X xk G R rk k d C h n) (hb: ¬ (1≤t∧t≤l.H.length)∨aT t X 0=none):
  cT Tryz.prog OB 28 [pt (d (70,0)),.bool false,I6 t] h n fun r h' n'=>r=I6 0∧h'=h∧n'=n:=by
 obtain⟨P1,S,F,⟨L,M⟩,B,K,e5,e6,hp,hH,hlk,hG⟩:=P
 have g0:=S.at B.base
 have gn:=PE S F hlk hH B.pool B.out hb
 refine aB (N:=63) Tryz.func28 rfl rfl fun z hP hO hro hN hQ=>?_
 repeat' first |simp(maxSteps:=2000000) (disch:=first |omega |assumption) only[go_sem, *] | (apply xs<;>intro _)<;>try omega |refine fun (_ _:List Nat)=>?_ | (first |refine aC Tryz.func17 rfl ?_ ?_ ?_ ?_ |fail)<;>intros
 refine fL (gn) (by simp only[*]) (by simp only[*]) (by simp only[go_sem, *]) (by simp only[go_sem, *]) ?_
 rintro r h2 n2 ⟨⟨e,he,rfl⟩,rfl,rfl⟩
 repeat' first |simp(maxSteps:=2000000) (disch:=first |omega |assumption) only[go_sem, *] | (apply xs<;>intro _)<;>try omega |refine fun (_ _:List Nat)=>?_ | (first |refine aC Tryz.func17 rfl ?_ ?_ ?_ ?_ |fail)<;>intros
set_option maxRecDepth 100000 in
set_option maxHeartbeats 16000000 in
theorem Kz {h1 h:PT aj} {n1 n lb:Nat} {l:bZ} {mk ev:Value} {p5 p6:Nat} {W:List Int} {stk:Nat→List Nat} {tag:Nat→Int} {X:List bp} {xk:Nat} {G:List Int} {R:List bp} {rk k j c0 t i:Nat} {x:Int} {d:Rl→Nat} {C:Rl→Option aj} (P:Po h1 n1 lb l mk ev p5 p6 W stk tag X xk G R rk k d C h n) (hk:k≤90000) (ht:1≤t∧t≤l.H.length) (hj:j<6) (hHt:l.H.getD (t-1) 0=(j:Int)+1) (hX:aT (t:Int) X 0=some (i,.bool false)) (Tl:X[i]? = some ((t:Int),.bool false,c0)) (J2:aT (t:Int) (X.set i ((t:Int),.bool true,c0)) 0=some (i,.bool true)) (hn:t∉stk j) (W6:G[t-1]? = some x) (hx:0≤x∧x<1000000):
  cT Tryz.prog OB 28 [pt (d (70,0)),.bool false,I6 t] h n fun v h' n'=>v=I6 t∧∃ W' d' C',d' (70,0)=d (70,0)∧(∀ a,90≤a→a≤99→d' (a,0)=d (a,0)∧C' (a,0)=C (a,0))∧Po h1 n1 lb l mk ev p5 p6 W' (Ba stk j (t::stk j)) (Ba tag j ((tag j+1)%1099511627776)) (X.eraseIdx i) xk (G.set (t-1) (x+1)) R rk (k+3) d' C' h' n':=by
 obtain⟨P1,S,F,⟨L,M⟩,B,K,e5,e6,hp,hH,hlk,hG⟩:=P
 have g0:=S.at B.base
 have b3:=B.pool
 rw[e5,e6] at b3
 have hh:=K.head j hj
 have Kt:=K.tag j hj
 have hlt:p5+j<W.length:=(List.getElem?_eq_some_iff.1 hh).1
 have hv:W[p5+j]=A_ (stk j)+65536*tag j:=(List.getElem?_eq_some_iff.1 hh).2
 obtain⟨b,hb,rF⟩:∃ b:Nat,A_ (stk j)=b∧b≤1024:=by
  cases hs:stk j with
  |nil=>exact⟨0,rfl,by omega⟩
  |cons b r=>exact⟨b,rfl,by have:=(K.mem j b hj (by rw[hs];simp)).2.1;omega⟩
 have K2:=K.give hj ht hHt hn (g:=(tag j+1)%1099511627776) (by omega)
 rw[hb] at hv K2
 have h56:=K.h6
 have hsz:=K.sz
 have gb:=gvB S F hlk hH b3 B.out (t:=(t:Int)) (x:=(j:Int)+1) ⟨by omega,by omega⟩ hX Tl (by rw[show ((t:Int)-1).toNat=t-1 by omega];exact hHt) ⟨by omega,by omega⟩ ⟨by omega,by omega⟩
 refine aB (N:=63) Tryz.func28 rfl rfl fun z hP hO hro hN hQ=>?_
 repeat' first |simp(maxSteps:=2000000) (disch:=first |omega |assumption) only[go_sem, *] | (apply xs<;>intro _)<;>try omega |refine fun (_ _:List Nat)=>?_ | (first |refine aC Tryz.func17 rfl ?_ ?_ ?_ ?_ |fail)<;>intros
 refine fL (gb) (by simp only[*]) (by simp only[*]) (by simp only[go_sem, *]) (by simp only[go_sem, *]) ?_
 rintro r h2 n2 ⟨p,q,q1,q2,q3,rfl,S2⟩
 have M0:=M.of (d':=d) (C':=upd C (76,0) (some (.map (bA .i64 (X.set i ((t:Int),.bool true,c0))) xk))) fun a ha=>⟨rfl,aq (by omega)⟩
 have N0:=Ny.op M0 (show n≤n2 by omega) q2 q1 S2
 obtain⟨d2,C2,N2,DR,Ku,W8,d76,d80,d81⟩:∃ d2 C2,Ny n d C [80,81,76] W k d2 C2 h2 n2∧C2 (80,0)=row (vU (d (75,0)) 0 t (p5+(j+1)-1) 0 4 q)∧C2 (81,0)=some (.map (bA .u8 Ie) 3)∧C2 (76,0)=some (.map (bA .i64 (X.set i ((t:Int),.bool true,c0))) xk)∧d2 (76,0)=d (76,0)∧d2 (80,0)=p∧d2 (81,0)=q:=
  ⟨_,_,⟨N0.le,N0.st,fun h1 n1 c F=>N0.fz h1 n1 c (F.set (by decide) B.out _),N0.mem,N0.dM,fun a b h hx=>by
   simp only[List.mem_cons,List.not_mem_nil,or_false,not_or] at hx
   have q:=N0.fr a b h (by simp;omega)
   exact⟨q.1,q.2.trans (aq hx.2.2)⟩⟩,(aq (by decide)).trans au,au,(aq (by decide)).trans ((aq (by decide)).trans au),(aq (by decide)).trans (aq (by decide)),(aq (by decide)).trans au,au⟩
 subst d80 d81
 clear S2 gb N0 M0
 have f75:=N2.fr 75 0 (by decide) (by simp)
 have Ey:=f75.2.trans b3
 have f77:=N2.fr 77 0 (by decide) (by simp)
 have c77:=f77.2.trans B.DG
 rw[←N2.dM,←d76,←f77.1] at Ey
 rw[←f75.1] at DR
 obtain⟨L2,M2⟩:=N2.mem
 rw[show ((p5:Int)+((j:Int)+1)-1)=((p5+j:Nat):Int) by omega] at DR
 have Ig:=Ko N2.st M2 Ey DR Ku rfl ⟨by omega,by omega⟩ hlt (by omega)
 rw[hv] at Ig
 repeat' first |simp(maxSteps:=2000000) (disch:=first |omega |assumption) only[go_sem, *] | (apply xs<;>intro _)<;>try omega |refine fun (_ _:List Nat)=>?_ | (first |refine aC Tryz.func17 rfl ?_ ?_ ?_ ?_ |fail)<;>intros
 rw[ct]
 repeat' first |simp(maxSteps:=2000000) (disch:=first |omega |assumption) only[go_sem, *] | (apply xs<;>intro _)<;>try omega |refine fun (_ _:List Nat)=>?_ | (first |refine aC Tryz.func17 rfl ?_ ?_ ?_ ?_ |fail)<;>intros
 refine fL (Ig) (by simp only[*]) (by simp only[*]) (by simp only[go_sem, *]) (by simp only[go_sem, *]) ?_
 rintro r h3 n3 ⟨d3,C3,N3,Kv⟩
 obtain⟨L3,M3⟩:=N3.mem
 have Ky:=(N3.cc 75 0 (by decide) (by simp)).trans Ey
 have Py:=(N3.cc 81 0 (by decide) (by simp)).trans Ku
 have W9:=(N3.cc 76 0 (by decide) (by simp)).trans W8
 have e77:=(N3.cc 77 0 (by decide) (by simp)).trans c77
 rw[←N3.dM,←N3.dd 76 0 (by decide),←N3.dd 77 0 (by decide)] at Ky
 rw[←N3.dd 75 0 (by decide),←N3.dd 81 0 (by decide)] at Kv
 have Pz:=Kq N3.st M3 Ky Kv Py rfl ⟨by omega,by omega⟩ ⟨by omega,by omega⟩ ⟨by omega,by omega⟩ (a:=p6+t-1) (by omega) (by omega) (by omega) ⟨by omega,by omega⟩ Kt
 rw[N3.dd 80 0 (by decide)] at Pz
 repeat' first |simp(maxSteps:=2000000) (disch:=first |omega |assumption) only[go_sem, *] | (apply xs<;>intro _)<;>try omega |refine fun (_ _:List Nat)=>?_ | (first |refine aC Tryz.func17 rfl ?_ ?_ ?_ ?_ |fail)<;>intros
 rw[ct]
 repeat' first |simp(maxSteps:=2000000) (disch:=first |omega |assumption) only[go_sem, *] | (apply xs<;>intro _)<;>try omega |refine fun (_ _:List Nat)=>?_ | (first |refine aC Tryz.func17 rfl ?_ ?_ ?_ ?_ |fail)<;>intros
 refine fL (Pz) (by simp only[*]) (by simp only[*]) (by simp only[go_sem, *]) (by simp only[go_sem, *]) ?_
 rintro r h4 n4 ⟨d4,C4,N4,PA⟩
 obtain⟨L4,M4⟩:=N4.mem
 have PB:=(N4.cc 75 0 (by decide) (by simp)).trans Ky
 have W_:=(N4.cc 81 0 (by decide) (by simp)).trans Py
 have Xa:=(N4.cc 76 0 (by decide) (by simp)).trans W9
 have y77:=(N4.cc 77 0 (by decide) (by simp)).trans e77
 rw[←N4.dM,←N4.dd 76 0 (by decide),←N4.dd 77 0 (by decide)] at PB
 rw[←N4.dd 75 0 (by decide),←N4.dd 81 0 (by decide)] at PA
 have Xb:p5+j<(W.set (p6+t-1) (b:Int)).length:=by rw[List.length_set];exact hlt
 have hv4:(W.set (p6+t-1) (b:Int))[p5+j]=(b:Int)+65536*tag j:=by rw[List.getElem_set_ne (by omega)];exact hv
 have PD:=Kr N4.st M4 PB PA W_ Xa y77 rfl ⟨by omega,by omega⟩ Xb (by omega) hv4 ⟨by omega,by omega⟩ (by omega) Kt ⟨by omega,by omega⟩ J2 W6 hx
 rw[N4.dd 80 0 (by decide),N3.dd 80 0 (by decide)] at PD
 repeat' first |simp(maxSteps:=2000000) (disch:=first |omega |assumption) only[go_sem, *] | (apply xs<;>intro _)<;>try omega |refine fun (_ _:List Nat)=>?_ | (first |refine aC Tryz.func17 rfl ?_ ?_ ?_ ?_ |fail)<;>intros
 rw[ct]
 repeat' first |simp(maxSteps:=2000000) (disch:=first |omega |assumption) only[go_sem, *] | (apply xs<;>intro _)<;>try omega |refine fun (_ _:List Nat)=>?_ | (first |refine aC Tryz.func17 rfl ?_ ?_ ?_ ?_ |fail)<;>intros
 refine fL (PD) (by simp only[*]) (by simp only[*]) (by simp only[go_sem, *]) (by simp only[go_sem, *]) ?_
 rintro r h5 n5 ⟨d5,C5,N5,w80,Tk,w77⟩
 repeat' first |simp(maxSteps:=2000000) (disch:=first |omega |assumption) only[go_sem, *] | (apply xs<;>intro _)<;>try omega |refine fun (_ _:List Nat)=>?_ | (first |refine aC Tryz.func17 rfl ?_ ?_ ?_ ?_ |fail)<;>intros
 rw[ct]
 repeat' first |simp(maxSteps:=2000000) (disch:=first |omega |assumption) only[go_sem, *] | (apply xs<;>intro _)<;>try omega |refine fun (_ _:List Nat)=>?_ | (first |refine aC Tryz.func17 rfl ?_ ?_ ?_ ?_ |fail)<;>intros
 have N:=((N2.sub (Y:=[80,81,76,77]) (by simp)).trans (N3.y (by simp))).trans ((N4.y (by simp)).trans (N5.y (by simp)))
 have x6:d5 (76,0)=d (76,0):=(N5.dd 76 0 (by decide)).trans ((N4.dd 76 0 (by decide)).trans ((N3.dd 76 0 (by decide)).trans d76))
 have x7:d5 (77,0)=d (77,0):=(N5.dd 77 0 (by decide)).trans ((N4.dd 77 0 (by decide)).trans ((N3.dd 77 0 (by decide)).trans f77.1))
 have he:(X.set i ((t:Int),.bool true,c0)).eraseIdx i=X.eraseIdx i:=by rw[List.eraseIdx_set_eq]
 rw[he] at Tk
 exact⟨_,_,_,Po.move ⟨P1,S,F,⟨L,M⟩,B,K,e5,e6,hp,hH,hlk,hG⟩ N (by simp) K2 x6 x7 Tk w77 List.length_set⟩
end Go.Proofs.YtfhmopghjoeamaaGreat
