/-
  A part of the proof: contracts of inner functions.
-/
import Derived.Test.YtbceiadaihphaaaGreatRX9
set_option linter.unusedVariables false
set_option linter.unusedSimpArgs false
namespace Go.Proofs.YtbceiadaihphaaaGreat
open Go.Am
variable {e:gT} {x:eG e} {rep:e.σ→List Value→(Rl→Nat)→(Rl→Option aj)→Prop}
set_option maxRecDepth 100000 in
set_option maxHeartbeats 2000000 in
theorem sK {ns nn:Nat} {l:List (Nat×Nat×Nat×Nat)} {h:PT aj} {n t kd v:Nat} {d:Rl→Nat} {C:Rl→Option aj} (S:St h n d C) (Fy:C (40,0)=row (cS d ns nn l)) (V6:l≠[]→C (43,0)=row (oZ l)) (hl:l.length≤100000) (xJ:kd<256) (hv:v<2^64):
  b9 Tryz.prog OP 58 [pt (d (40,0)),I6 t,U8 kd,U6 v] h n fun r h' n'=>r=dY []∧∃ g,n≤g∧St h' n' (upd d (43,0) g) (upd (upd C (43,0) (row (oZ (l++[(nn,t,kd,v)])))) (40,0) (row (cS (upd d (43,0) g) ns nn (l++[(nn,t,kd,v)])))):=by
 have dQ:=S.at Fy
 have uc:=S.lt Fy
 have hk2:l.length+1≤1048576:=by omega
 simp only[cS] at dQ
 by_cases c:l=[]
 ·subst c
  have e0:Av d [] = .slice none 0 0:=if_pos rfl
  rw[e0] at dQ
  clear e0
  refine aC (N:=25) Tryz.func58 rfl rfl fun z hP hO hro hN hQ=>?_
  repeat' first |simp(disch:=first |omega |assumption) only[go_sem, *] | (apply xs<;>intro _)<;>try omega | ((with_reducible refine bR 0 ?_);refine dz 25 0 w58_0 ?_)
  have hm:cS (upd d (43,0) (n+1)) ns nn ([]++[(nn,t,kd,v)])=[pt (d rM),pt (d (4,0)),.slice (some ⟨d (41,0),0,none⟩) ns (aB+8),.slice (some ⟨n+1,0,none⟩) 1 (aB+4),I6 nn,.map (some (d (44,0)))]:=by
   unfold cS Av;rw[if_neg (by simp)];(simp(disch:=first |decide |assumption |omega) only[rM,rW,rL,ah,au,aR,aG])<;>rfl
  refine⟨rfl,n+1,by omega,?_⟩
  rw[show [(nn,t,kd,v)]=[]++[(nn,t,kd,v)] from rfl,hm]
  exact((S.junk bG bH).new (43,0) _ bG bH).set (40,0) _ ((au (by decide)).trans Fy) (au (by decide))
 ·have e0:Av d l = .slice (some ⟨d (43,0),0,none⟩) l.length (aB+4):=if_neg c
  rw[e0] at dQ
  have g43:=S.at (V6 c)
  have n43:=S.lt (V6 c)
  have d1:=S.df Fy (V6 c) (by simp)
  have hlen:=kL l
  have tZ:List.take (l.length*4) (oZ l)=oZ l:=List.take_of_length_le (by omega)
  have hpos:0<l.length:=List.length_pos_iff.2 c
  clear e0
  refine aC (N:=25) Tryz.func58 rfl rfl fun z hP hO hro hN hQ=>?_
  repeat' first |simp(disch:=first |omega |assumption) only[go_sem, *] | (apply xs<;>intro _)<;>try omega | ((with_reducible refine bR 0 ?_);refine dz 25 0 w58_0 ?_)
  have hm:cS (upd d (43,0) (n+1)) ns nn (l++[(nn,t,kd,v)])=[pt (d rM),pt (d (4,0)),.slice (some ⟨d (41,0),0,none⟩) ns (aB+8),.slice (some ⟨n+1,0,none⟩) (l.length+1) (aB+4),I6 nn,.map (some (d (44,0)))]:=by
   unfold cS Av;rw[if_neg (by simp),List.length_append];(simp(disch:=first |decide |assumption |omega) only[rM,rW,rL,ah,au,aR,aG])<;>rfl
  refine⟨rfl,n+1,by omega,?_⟩
  rw[hm,←Fv]
  exact((((S.junk bG bH).kill (43,0) (V6 c) rfl).new (43,0) _ bG bH).eq (by rw[aN]) rfl).set (40,0) _ ((au (by decide)).trans Fy) (au (by decide))
end Go.Proofs.YtbceiadaihphaaaGreat
namespace Go.Proofs.YtbceiadaihphaaaGreat
open Go.Am
variable {e:gT} {x:eG e} {rep:e.σ→List Value→(Rl→Nat)→(Rl→Option aj)→Prop}
def RS.nx (hJ h_:e.σ→Nat→Int) (r:RS e) (t:Nat):Int:=if e.br r.s t=true then hJ r.s t else if e.wt r.s t=true then h_ r.s t else (r.pc t:Int)
set_option maxRecDepth 100000 in
set_option maxHeartbeats 2000000 in
theorem Fz {ns:Nat} {hJ h_:e.σ→Nat→Int} (N:qu e ns rep hJ h_) {h:PT aj} {k:List Value} {n t:Nat} {d:Rl→Nat} {C:Rl→Option aj} {ops:Ops} {r:RS e} (S:St h n d C) (R:bP rep ops ns (aM ops d r) r k d C) (ht:t<ns):
  b9 Tryz.prog OP 26 [.pointer (some ⟨d (41,0),t*8,none⟩)] h n fun v h' n'=>v=U8 (RS.nx hJ h_ r t)∧St h' n' d C:=by
 have qR:=S.at R.dJ
 have Aw:=S.lt R.dJ
 have q1:aM ops d r (t*8+2)=aZ ops d r t 2:=aL (by omega)
 have q2:aM ops d r (t*8+3)=aZ ops d r t 3:=aL (by omega)
 have q3:aM ops d r (t*8+4)=aZ ops d r t 4:=aL (by omega)
 simp only[aZ] at q1 q2 q3
 unfold RS.nx
 by_cases h1:e.br r.s t=true
 ·rw[if_pos h1] at q1 ⊢
  have en:=N.Fq S R.rep ht h1
  refine aC (N:=29) Tryz.func26 rfl rfl fun z hP hO hro hN hQ=>?_
  repeat' first |simp(disch:=first |omega |assumption) only[go_sem, *] | (apply xs<;>intro _)<;>try omega
  refine eJ (en) (by simp only[*]) (by simp only[*]) (by simp only[go_sem, *]) (by simp only[go_sem, *]) ?_
  rintro rr h2 n2 ⟨rfl,c1,S2⟩
  clear qR
  repeat' first |simp(disch:=first |omega |assumption) only[go_sem, *] | (apply xs<;>intro _)<;>try omega
 ·by_cases h2:e.wt r.s t=true
  ·rw[if_neg h1] at q1 ⊢
   rw[if_pos h2] at q2 ⊢
   have en:=N.Ft S R.rep ht h2
   refine aC (N:=29) Tryz.func26 rfl rfl fun z hP hO hro hN hQ=>?_
   repeat' first |simp(disch:=first |omega |assumption) only[go_sem, *] | (apply xs<;>intro _)<;>try omega
   refine eJ (en) (by simp only[*]) (by simp only[*]) (by simp only[go_sem, *]) (by simp only[go_sem, *]) ?_
   rintro rr h2 n2 ⟨rfl,c1,S2⟩
   clear qR
   repeat' first |simp(disch:=first |omega |assumption) only[go_sem, *] | (apply xs<;>intro _)<;>try omega
  ·rw[if_neg h1] at q1 ⊢
   rw[if_neg h2] at q2 ⊢
   refine aC (N:=29) Tryz.func26 rfl rfl fun z hP hO hro hN hQ=>?_
   repeat' first |simp(disch:=first |omega |assumption) only[go_sem, *] | (apply xs<;>intro _)<;>try omega
end Go.Proofs.YtbceiadaihphaaaGreat
namespace Go.Proofs.YtbceiadaihphaaaGreat
open Go.Am
variable {e:gT} {x:eG e} {rep:e.σ→List Value→(Rl→Nat)→(Rl→Option aj)→Prop}
theorem mW {d d':Rl→Nat} {C C':Rl→Option aj} {t ns n:Nat} {l:List (Nat×Nat×Nat×Nat)} (cz:Fr d C d' C' t):cS d' ns n l=cS d ns n l:=by
 unfold cS Av
 rw[cz.mem,cz.uT,(cz.dZ 41 0 (by omega)).1,(cz.dZ 43 0 (by omega)).1,(cz.dZ 44 0 (by omega)).1]
theorem bP.of {ops:Ops} {k k':List Value} {ns:Nat} {f g:Nat→Value} {r r':RS e} {d d':Rl→Nat} {C C':Rl→Option aj} (R:bP rep ops ns f r k d C) (hr:rep r'.s k' d' C') (hm:C' (40,0)=row (cS d' ns r'.n r'.ev)) (ht:C' (41,0)=row (cQ (8*ns) g)) (ho:∀ u,C' (42,u)=C (42,u)) (cR:r'.ev≠[]→C' (43,0)=row (oZ r'.ev)) (hk:C' (44,0)=C (44,0)) (Cr:d' (40,0)=d (40,0)):bP rep ops ns g r' k' d' C':=
 ⟨hr,hm,ht,fun u hu c=>(ho u).trans (R.ops u hu c),cR,by rw[hk,Cr];exact R.kinds⟩
theorem kN {ops:Ops} {d:Rl→Nat} {g:Nat} {r:RS e} {u j:Nat}:aZ ops (upd d (43,0) g) r u j=aZ ops d r u j:=by
 match j with
 |0=>simp only[aZ];rw[au (by decide)]
 |1=>rfl
 |2=>simp only[aZ];rw[au (by decide)]
 |3=>simp only[aZ];rw[au (by decide)]
 |4=>rfl
 |5=>rfl
 |6=>rfl
 |j+7=>rfl
structure kO (rep:e.σ→List Value→(Rl→Nat)→(Rl→Option aj)→Prop) (ops:Ops) (ns t:Nat) (k:List Value) (pc:Int) (a:List Value) (dn:Bool) (r1:RS e) (d:Rl→Nat) (C:Rl→Option aj) (v:Value) (h':PT aj) (n':Nat):Prop where
 out:∃ d' C' f,v=dY [U8 pc,.bool dn]∧St h' n' d' C'∧bP rep ops ns f r1 (k++a) d' C'∧Fx d C d' C'∧va ops ns t d' r1 f∧(dn=false→cQ (8*ns) f=cQ (8*ns) (aM ops d' r1))
set_option maxRecDepth 100000 in
set_option maxHeartbeats 2000000 in
theorem MA {ns:Nat} (F:gp e x ns rep) (fit:e.Fits) {h:PT aj} {k:List Value} {n t:Nat} {d:Rl→Nat} {C:Rl→Option aj} {ops:Ops} {r:RS e} (S:St h n d C) (R:bP rep ops ns (aM ops d r) r k d C) (ht:t<ns) (cq:ns≤64) (hk:k.length≤540000) (hl:r.ev.length≤90000) (h1:e.br r.s t=true) (hn:e.bB r.s t=false) (hw:e.wt r.s t=false) (hv:r.val t<64):
  b9 Tryz.prog OP 28 [pt (d (40,0)),I6 t] h n fun v h' n'=>kO rep ops ns t k (x.hJ r.s t) (x.aE r.s t) (!e.br (e.aP r.s t) t) { r with s:=e.aP r.s t,ev:=if e.br (e.aP r.s t) t=true then r.ev else r.ev++[(r.n,t,1,r.val t)] } d C v h' n':=by
 have dQ:=S.at R.bA
 have qR:=S.at R.dJ
 have uc:=S.lt R.bA
 have Aw:=S.lt R.dJ
 have d1:=S.df R.bA R.dJ (by simp)
 have t1:(t:Int)<ns:=by omega
 have q0:aM ops d r (t*8+2)=aZ ops d r t 2:=aL (by omega)
 have q7:aM ops d r (t*8+7)=aZ ops d r t 7:=aL (by omega)
 simp only[aZ] at q0 q7
 rw[if_pos h1] at q0
 simp only[cS] at dQ
 have en:=F.Ml S R.rep hk ht h1 hn
 cases hd:e.br (e.aP r.s t) t with
 |true=>
  rw[hd] at en
  refine aC (N:=115) Tryz.func28 rfl rfl fun z hP hO hro hN hQ=>?_
  repeat' first |simp(disch:=first |omega |assumption) only[go_sem, *] | (apply xs<;>intro _)<;>try omega
  refine eJ (en) (by simp only[*]) (by simp only[*]) (by simp only[go_sem, *]) (by simp only[go_sem, *]) ?_
  rintro rr h2 n2 ⟨d2,C2,rfl,S2,R2,cz,hp⟩
  clear en dQ qR
  repeat' first |simp(disch:=first |omega |assumption) only[go_sem, *] | (apply xs<;>intro _)<;>try omega
  obtain⟨f1,f2,f3⟩:=fit.aP r.s t h1 hn
  have Co:=(cz.dZ 42 t (by omega)).1
  have sL:=f2 t
  rw[if_pos rfl,hd] at sL
  have f3t:=f3 t
  have hT:∀ j,j<8→aZ ops d r t j=aZ ops d2 { r with s:=e.aP r.s t } t j:=by
   refine case8 ?_ ?_ ?_ ?_ ?_ ?_ ?_ ?_<;>simp only[aZ,Co,hd,h1,hp,hn,hw,sL,f3t,Bool.not_true,Bool.false_eq_true,if_false]
  have hO:∀ u j,u<ns→u≠t→j<8→aZ ops d2 { r with s:=e.aP r.s t } u j=aZ ops d r u j:=fun u j hu cu hj=>cK cz cu (f1 u cu) (f3 u) ((f2 u).trans (if_neg cu)) rfl rfl rfl rfl
  refine⟨d2,C2,aM ops d r,rfl,S2,bP.of R R2 ?_ ((cz.dZ 41 0 (by omega)).2.trans R.dJ) (fun u=>(cz.dZ 42 u (by omega)).2) ?_ (cz.dZ 44 0 (by omega)).2 (cz.dZ 40 0 (by omega)).1,⟨(cz.dZ 40 0 (by omega)).1,fun a b c=>cz.dZ a b (by omega)⟩,⟨fun u j hu cu hj=>?_,fun j hj _ _ _=>?_⟩,fun _=>?_⟩
  ·rw[(cz.dZ 40 0 (by omega)).2,R.bA,mW cz]<;>simp only[hd,if_true]
  ·intro c;rw[(cz.dZ 43 0 (by omega)).2];exact R.ev c
  ·rw[aL hj];exact(hO u j hu cu hj).symm
  ·rw[aL hj];exact hT j hj
  ·refine jd (Fu fun u j hu hj=>?_)
   rw[aL hj,aL hj]
   by_cases cu:u=t
   ·subst cu;exact hT j hj
   ·exact(hO u j hu cu hj).symm
 |false=>
  rw[hd] at en
  refine aC (N:=115) Tryz.func28 rfl rfl fun z hP hO hro hN hQ=>?_
  repeat' first |simp(disch:=first |omega |assumption) only[go_sem, *] | (apply xs<;>intro _)<;>try omega
  refine eJ (en) (by simp only[*]) (by simp only[*]) (by simp only[go_sem, *]) (by simp only[go_sem, *]) ?_
  rintro rr h2 n2 ⟨d2,C2,rfl,S2,R2,cz,hp⟩
  have vf:=S2.at ((cz.dZ 41 0 (by omega)).2.trans R.dJ)
  rw[(cz.dZ 41 0 (by omega)).1] at vf
  clear en dQ qR
  repeat' first |simp(disch:=first |omega |assumption) only[go_sem, *] | (apply xs<;>intro _)<;>try omega
  obtain⟨f1,f2,f3⟩:=fit.aP r.s t h1 hn
  have Co:=(cz.dZ 42 t (by omega)).1
  have sL:=f2 t
  rw[if_pos rfl,hd] at sL
  rw[←(cz.dZ 40 0 (by omega)).1]
  refine eJ (sK (kd:=1) (ns:=ns) (nn:=r.n) (l:=r.ev) (t:=t) (v:=r.val t) (S2.set (41,0) (.cells (PT.ofList .leaf 0 (cQ (8*ns) (fs (aM ops d r) (t*8+6) (.bool true)))) false) ((cz.dZ 41 0 (by omega)).2.trans R.dJ) (cz.dZ 41 0 (by omega)).1) ((au (by decide)).trans ((cz.dZ 40 0 (by omega)).2.trans (R.bA.trans (by rw[mW cz])))) (fun c=>(au (by decide)).trans ((cz.dZ 43 0 (by omega)).2.trans (R.ev c))) (by omega) (by omega) (by omega)) (by simp only[*]) (by simp only[*]) (by simp only[go_sem, *]) (by simp only[go_sem, *]) ?_
  rintro Ze h3 n3 ⟨rfl,g,hg,S4⟩
  clear vf
  repeat' first |simp(disch:=first |omega |assumption) only[go_sem, *] | (apply xs<;>intro _)<;>try omega
  refine⟨upd d2 (43,0) g,_,fs (aM ops d r) (t*8+6) (.bool true),rfl,S4,bP.of R (F.bC (F.bC (F.bC (F.B3 R2 (by omega)) (by omega)) (by omega)) (by omega)) ah rR (fun u=>rE (cz.dZ 42 u (by omega)).2) (fun _=>rS) (rE (cz.dZ 44 0 (by omega)).2) ((au (by decide)).trans (cz.dZ 40 0 (by omega)).1),⟨(au (by decide)).trans (cz.dZ 40 0 (by omega)).1,fun a b c=>⟨rE (cz.dZ a b (by omega)).1,rE (cz.dZ a b (by omega)).2⟩⟩,⟨fun u j hu cu hj=>?_,fun j hj j2 j3 j4=>?_⟩,fun c=>by cases c⟩
  ·rw[az (by omega),aL hj,kN];refine Eq.symm ?_;exact cK cz cu (f1 u cu) (f3 u) ((f2 u).trans (if_neg cu)) rfl rfl rfl rfl
  ·rw[kN]
   by_cases j6:j=6
   ·subst j6;rw[aA];simp only[aZ,sL,Bool.not_false]
   ·rw[az (by omega),aL hj]
    revert j2 j3 j4 j6
    refine case8 (P:=fun j=>j≠2→j≠3→j≠4→j≠6→aZ ops d r t j=aZ ops d2 _ t j) ?_ ?_ ?_ ?_ ?_ ?_ ?_ ?_ j hj<;>intro _ _ _ _<;>first |contradiction |simp only[aZ,Co]
end Go.Proofs.YtbceiadaihphaaaGreat
namespace Go.Proofs.YtbceiadaihphaaaGreat
open Go.Am
variable {e:gT} {x:eG e} {rep:e.σ→List Value→(Rl→Nat)→(Rl→Option aj)→Prop}
set_option maxRecDepth 100000 in
set_option maxHeartbeats 2000000 in
theorem MB {ns:Nat} (F:gp e x ns rep) (fit:e.Fits) {h:PT aj} {k:List Value} {n t:Nat} {d:Rl→Nat} {C:Rl→Option aj} {ops:Ops} {r:RS e} (S:St h n d C) (R:bP rep ops ns (aM ops d r) r k d C) (ht:t<ns) (cq:ns≤64) (hk:k.length≤540000) (hl:r.ev.length≤90000) (h1:e.br r.s t=false) (hw:e.wt r.s t=false) (hp:r.pc t=1):
  b9 Tryz.prog OP 28 [pt (d (40,0)),I6 t] h n fun v h' n'=>kO rep ops ns t k 1 [] true r d C v h' n':=by
 have dQ:=S.at R.bA
 have qR:=S.at R.dJ
 have uc:=S.lt R.bA
 have Aw:=S.lt R.dJ
 have d1:=S.df R.bA R.dJ (by simp)
 have t1:(t:Int)<ns:=by omega
 have q2:aM ops d r (t*8+2)=aZ ops d r t 2:=aL (by omega)
 have q3:aM ops d r (t*8+3)=aZ ops d r t 3:=aL (by omega)
 have q4:aM ops d r (t*8+4)=aZ ops d r t 4:=aL (by omega)
 have q7:aM ops d r (t*8+7)=aZ ops d r t 7:=aL (by omega)
 simp only[aZ] at q2 q3 q4 q7
 rw[if_neg (by rw[h1];simp)] at q2
 rw[if_neg (by rw[hw];simp)] at q3
 simp only[cS] at dQ
 rw[hp] at q4
 refine aC (N:=115) Tryz.func28 rfl rfl fun z hP hO hro hN hQ=>?_
 repeat' first |simp(disch:=first |omega |assumption) only[go_sem, *] | (apply xs<;>intro _)<;>try omega
 refine⟨d,C,aM ops d r,rfl,S,?_,⟨rfl,fun _ _ _=>⟨rfl,rfl⟩⟩,⟨fun u j hu cu hj=>aL hj,fun j hj _ _ _=>aL hj⟩,fun c=>by cases c⟩
 rw[List.append_nil];exact R
set_option maxRecDepth 100000 in
set_option maxHeartbeats 2000000 in
theorem MC {ns:Nat} (F:gp e x ns rep) (fit:e.Fits) {h:PT aj} {k:List Value} {n t:Nat} {d:Rl→Nat} {C:Rl→Option aj} {ops:Ops} {r:RS e} (S:St h n d C) (R:bP rep ops ns (aM ops d r) r k d C) (ht:t<ns) (cq:ns≤64) (hk:k.length≤540000) (hl:r.ev.length≤90000) (h1:e.br r.s t=false) (hw:e.wt r.s t=false) (hn:e.bB r.s t=true) (hp:r.pc t≠1) (hp2:r.pc t<256) (hv:r.val t<64):
  b9 Tryz.prog OP 28 [pt (d (40,0)),I6 t] h n fun v h' n'=>kO rep ops ns t k x.CU (x.aX r.s t) true { r with s:=e.exit r.s t,ev:=r.ev++[(r.n,t,2,r.val t)] } d C v h' n':=by
 have dQ:=S.at R.bA
 have qR:=S.at R.dJ
 have uc:=S.lt R.bA
 have Aw:=S.lt R.dJ
 have d1:=S.df R.bA R.dJ (by simp)
 have t1:(t:Int)<ns:=by omega
 have q2:aM ops d r (t*8+2)=aZ ops d r t 2:=aL (by omega)
 have q3:aM ops d r (t*8+3)=aZ ops d r t 3:=aL (by omega)
 have q4:aM ops d r (t*8+4)=aZ ops d r t 4:=aL (by omega)
 have q7:aM ops d r (t*8+7)=aZ ops d r t 7:=aL (by omega)
 simp only[aZ] at q2 q3 q4 q7
 rw[if_neg (by rw[h1];simp)] at q2
 rw[if_neg (by rw[hw];simp)] at q3
 simp only[cS] at dQ
 have hp1: ¬ (r.pc t:Int)=1:=by omega
 have n4c:=(Nat.le_refl n)
 refine aC (N:=115) Tryz.func28 rfl rfl fun z hP hO hro hN hQ=>?_
 repeat' first |simp(disch:=first |omega |assumption) only[go_sem, *] | (apply xs<;>intro _)<;>try omega
 refine eJ (F.RI S R.rep hk ht hn h1) (by simp only[*]) (by simp only[*]) (by simp only[go_sem, *]) (by simp only[go_sem, *]) ?_
 rintro rr h2 n2 ⟨d2,C2,rfl,S2,R2,cz⟩
 have vf:=S2.at ((cz.dZ 41 0 (by omega)).2.trans R.dJ)
 rw[(cz.dZ 41 0 (by omega)).1] at vf
 clear dQ qR
 repeat' first |simp(disch:=first |omega |assumption) only[go_sem, *] | (apply xs<;>intro _)<;>try omega
 obtain⟨f1,f2,f3⟩:=fit.exit r.s t hn
 have Co:=(cz.dZ 42 t (by omega)).1
 have sL:=f2 t
 rw[if_pos rfl] at sL
 rw[←(cz.dZ 40 0 (by omega)).1]
 refine eJ (sK (kd:=2) (ns:=ns) (nn:=r.n) (l:=r.ev) (t:=t) (v:=r.val t) (S2.set (41,0) (.cells (PT.ofList .leaf 0 (cQ (8*ns) (fs (aM ops d r) (t*8+6) (.bool false)))) false) ((cz.dZ 41 0 (by omega)).2.trans R.dJ) (cz.dZ 41 0 (by omega)).1) ((au (by decide)).trans ((cz.dZ 40 0 (by omega)).2.trans (R.bA.trans (by rw[mW cz])))) (fun c=>(au (by decide)).trans ((cz.dZ 43 0 (by omega)).2.trans (R.ev c))) (by omega) (by omega) (by omega)) (by simp only[*]) (by simp only[*]) (by simp only[go_sem, *]) (by simp only[go_sem, *]) ?_
 rintro Ze h3 n3 ⟨rfl,g,hg,S4⟩
 clear vf
 repeat' first |simp(disch:=first |omega |assumption) only[go_sem, *] | (apply xs<;>intro _)<;>try omega
 refine⟨upd d2 (43,0) g,_,fs (aM ops d r) (t*8+6) (.bool false),rfl,S4,bP.of R (F.bC (F.bC (F.bC (F.B3 R2 (by omega)) (by omega)) (by omega)) (by omega)) ah rR (fun u=>rE (cz.dZ 42 u (by omega)).2) (fun _=>rS) (rE (cz.dZ 44 0 (by omega)).2) ((au (by decide)).trans (cz.dZ 40 0 (by omega)).1),⟨(au (by decide)).trans (cz.dZ 40 0 (by omega)).1,fun a b c=>⟨rE (cz.dZ a b (by omega)).1,rE (cz.dZ a b (by omega)).2⟩⟩,⟨fun u j hu cu hj=>?_,fun j hj j2 j3 j4=>?_⟩,fun c=>by cases c⟩
 ·rw[az (by omega),aL hj,kN];refine Eq.symm ?_;exact cK cz cu (f1 u) (f3 u) ((f2 u).trans (if_neg cu)) rfl rfl rfl rfl
 ·rw[kN]
  by_cases j6:j=6
  ·subst j6;rw[aA];simp only[aZ,sL,Bool.not_true]
  ·rw[az (by omega),aL hj]
   revert j2 j3 j4 j6
   refine case8 (P:=fun j=>j≠2→j≠3→j≠4→j≠6→aZ ops d r t j=aZ ops d2 _ t j) ?_ ?_ ?_ ?_ ?_ ?_ ?_ ?_ j hj<;>intro _ _ _ _<;>first |contradiction |simp only[aZ,Co]
end Go.Proofs.YtbceiadaihphaaaGreat
namespace Go.Proofs.YtbceiadaihphaaaGreat
open Go.Am
variable {e:gT} {x:eG e} {rep:e.σ→List Value→(Rl→Nat)→(Rl→Option aj)→Prop}
theorem Km {ns:Nat} (fit:e.Fits) {h2:PT aj} {k:List Value} {n2 t:Nat} {pc:Int} {a:List Value} {d dA d2:Rl→Nat} {C CA C2:Rl→Option aj} {ops:Ops} {r:RS e} {IZ:List (Nat×Nat×Nat×Nat)} (RA:bP rep ops ns (fs (aM ops d r) (t*8+5) (.bool true)) { r with bg:=fs r.bg t true,ev:=IZ } k dA CA) (hA:∀ u j,aZ ops dA r u j=aZ ops d r u j) (hX:Fx d C dA CA) (ht:t<ns) (h1:e.br r.s t=false) (hw:e.wt r.s t=true) (cz:Fr dA CA d2 C2 t) (hp:d2 (10,t)=dA (10,t)) (S2:St h2 n2 d2 C2) (R2:rep (e.aQ r.s t) (k++a) d2 C2) (hd:e.wt (e.aQ r.s t) t=true):kO rep ops ns t k pc a false { r with s:=e.aQ r.s t,bg:=fs r.bg t true,ev:=IZ } d C (dY [U8 pc,.bool false]) h2 n2:=by
 obtain⟨f1,f2,f3⟩:=fit.aQ r.s t
 have Co:=(cz.dZ 42 t (by omega)).1
 have f1t:=f1 t
 have sL:=f2 t
 have hT:∀ j,j<8→fs (aM ops d r) (t*8+5) (.bool true) (t*8+j)=aZ ops d2 { r with s:=e.aQ r.s t,bg:=fs r.bg t true,ev:=IZ } t j:=by
  intro j hj
  by_cases j5:j=5
  ·subst j5;rw[aA];simp only[aZ,aA]
  ·rw[az (by omega),aL hj,←hA]
   revert j5
   refine case8 (P:=fun j=>j≠5→aZ ops dA r t j=aZ ops d2 _ t j) ?_ ?_ ?_ ?_ ?_ ?_ ?_ ?_ j hj<;>intro _<;>first |contradiction |simp only[aZ,Co,hd,h1,hw,hp,f1t,sL,if_true,Bool.false_eq_true,if_false]
 have hO:∀ u j,u<ns→u≠t→j<8→fs (aM ops d r) (t*8+5) (.bool true) (u*8+j)=aZ ops d2 { r with s:=e.aQ r.s t,bg:=fs r.bg t true,ev:=IZ } u j:=fun u j hu cu hj=>by
  rw[az (by omega),aL hj,←hA];refine Eq.symm ?_;exact cK cz cu (f1 u) (f3 u cu) (f2 u) rfl rfl (az cu) rfl
 refine⟨d2,C2,_,rfl,S2,bP.of RA R2 ?_ ((cz.dZ 41 0 (by omega)).2.trans RA.dJ) (fun u=>(cz.dZ 42 u (by omega)).2) (fun c=>(cz.dZ 43 0 (by omega)).2.trans (RA.ev c)) (cz.dZ 44 0 (by omega)).2 (cz.dZ 40 0 (by omega)).1,⟨(cz.dZ 40 0 (by omega)).1.trans hX.m,fun a b c=>⟨(cz.dZ a b (by omega)).1.trans (hX.x a b c).1,(cz.dZ a b (by omega)).2.trans (hX.x a b c).2⟩⟩,⟨hO,fun j hj _ _ _=>hT j hj⟩,fun _=>?_⟩
 ·rw[(cz.dZ 40 0 (by omega)).2,RA.bA,mW cz]
 ·refine jd (Fu fun u j hu hj=>?_)
  rw[aL hj]
  by_cases cu:u=t
  ·subst cu;exact hT j hj
  ·exact hO u j hu cu hj
theorem Kn {ns:Nat} (F:gp e x ns rep) (fit:e.Fits) {h2:PT aj} {k:List Value} {n2 t v g:Nat} {pc:Int} {a:List Value} {d dA d2:Rl→Nat} {C CA C2:Rl→Option aj} {ops:Ops} {r:RS e} {IZ:List (Nat×Nat×Nat×Nat)} (RA:bP rep ops ns (fs (aM ops d r) (t*8+5) (.bool true)) { r with bg:=fs r.bg t true,ev:=IZ } k dA CA) (hA:∀ u j,aZ ops dA r u j=aZ ops d r u j) (hX:Fx d C dA CA) (ht:t<ns) (h1:e.br r.s t=false) (hw:e.wt r.s t=true) (cz:Fr dA CA d2 C2 t) (R2:rep (e.aQ r.s t) (k++a) d2 C2) (S4:St h2 n2 (upd d2 (43,0) g) (upd (upd C2 (43,0) (row (oZ (IZ++[(r.n,t,4,v)])))) (40,0) (row (cS (upd d2 (43,0) g) ns r.n (IZ++[(r.n,t,4,v)]))))):kO rep ops ns t k pc a true { r with s:=e.aQ r.s t,bg:=fs r.bg t true,ev:=IZ++[(r.n,t,4,v)] } d C (dY [U8 pc,.bool true]) h2 n2:=by
 obtain⟨f1,f2,f3⟩:=fit.aQ r.s t
 have Co:=(cz.dZ 42 t (by omega)).1
 have f1t:=f1 t
 have sL:=f2 t
 refine⟨upd d2 (43,0) g,_,fs (aM ops d r) (t*8+5) (.bool true),rfl,S4,bP.of RA (F.bC (F.bC (F.B3 R2 (by omega)) (by omega)) (by omega)) ah (by simp(disch:=first |decide |assumption |omega) only[rM,rW,rL,ah,au,aR,aG];exact(cz.dZ 41 0 (by omega)).2.trans RA.dJ) (fun u=>rE (cz.dZ 42 u (by omega)).2) (fun _=>rS) (rE (cz.dZ 44 0 (by omega)).2) ((au (by decide)).trans (cz.dZ 40 0 (by omega)).1),⟨(au (by decide)).trans ((cz.dZ 40 0 (by omega)).1.trans hX.m),fun a b c=>⟨by simp(disch:=first |decide |assumption |omega) only[rM,rW,rL,ah,au,aR,aG];exact(cz.dZ a b (by omega)).1.trans (hX.x a b c).1,by simp(disch:=first |decide |assumption |omega) only[rM,rW,rL,ah,au,aR,aG];exact(cz.dZ a b (by omega)).2.trans (hX.x a b c).2⟩⟩,⟨fun u j hu cu hj=>?_,fun j hj j2 j3 j4=>?_⟩,fun c=>by cases c⟩
 ·rw[az (by omega),aL hj,←hA,kN];refine Eq.symm ?_;exact cK cz cu (f1 u) (f3 u cu) (f2 u) rfl rfl (az cu) rfl
 ·rw[kN]
  by_cases j5:j=5
  ·subst j5;rw[aA];simp only[aZ,aA]
  ·rw[az (by omega),aL hj,←hA]
   revert j2 j3 j4 j5
   refine case8 (P:=fun j=>j≠2→j≠3→j≠4→j≠5→aZ ops dA r t j=aZ ops d2 _ t j) ?_ ?_ ?_ ?_ ?_ ?_ ?_ ?_ j hj<;>intro _ _ _ _<;>first |contradiction |simp only[aZ,Co,sL]
end Go.Proofs.YtbceiadaihphaaaGreat
namespace Go.Proofs.YtbceiadaihphaaaGreat
open Go.Am
variable {e:gT} {x:eG e} {rep:e.σ→List Value→(Rl→Nat)→(Rl→Option aj)→Prop}
set_option maxRecDepth 100000 in
set_option maxHeartbeats 2000000 in
theorem MD {ns:Nat} (F:gp e x ns rep) (fit:e.Fits) {h:PT aj} {k:List Value} {n t v:Nat} {d:Rl→Nat} {C:Rl→Option aj} {ops:Ops} {r:RS e} (S:St h n d C) (R:bP rep ops ns (aM ops d r) r k d C) (ht:t<ns) (cq:ns≤64) (hk:k.length≤540000) (hl:r.ev.length≤90000) (h1:e.br r.s t=false) (hw:e.wt r.s t=true) (ho:(ops t)[r.idx t]? = some (3,v)) (hv:v<2^64):
  b9 Tryz.prog OP 28 [pt (d (40,0)),I6 t] h n fun w h' n'=>kO rep ops ns t k (x.h_ r.s t) (x.aW r.s t) (!e.wt (e.aQ r.s t) t) { r with s:=e.aQ r.s t,bg:=fs r.bg t true,ev:=(if r.bg t=true then r.ev else r.ev++[(r.n,t,3,v)])++(if e.wt (e.aQ r.s t) t=true then [] else [(r.n,t,4,v)]) } d C w h' n':=by
 have dQ:=S.at R.bA
 have qR:=S.at R.dJ
 have uc:=S.lt R.bA
 have Aw:=S.lt R.dJ
 have d1:=S.df R.bA R.dJ (by simp)
 have t1:(t:Int)<ns:=by omega
 have hne:ops t≠[]:=fun q=>by rw[q] at ho;simp at ho
 have hlen:r.idx t<(ops t).length:=(List.getElem?_eq_some_iff.1 ho).1
 obtain⟨l1,l2⟩:=kM _ _ _ ho
 have Mz:=S.at (R.ops t ht hne)
 have V5:=S.lt (R.ops t ht hne)
 have d3:=S.df (R.ops t ht hne) R.dJ (by simp)
 have hi2:((r.idx t:Nat):Int)<((ops t).length:Nat):=by omega
 have hB:Nat.ble (r.idx t*2+2) (nZ (ops t)).length=true:=Nat.ble_eq_true_of_le (by rw[cO];omega)
 have q0:aM ops d r (t*8+0)=aZ ops d r t 0:=aL (by omega)
 have q1:aM ops d r (t*8+1)=aZ ops d r t 1:=aL (by omega)
 have q2:aM ops d r (t*8+2)=aZ ops d r t 2:=aL (by omega)
 have q3:aM ops d r (t*8+3)=aZ ops d r t 3:=aL (by omega)
 have q5:aM ops d r (t*8+5)=aZ ops d r t 5:=aL (by omega)
 simp only[aZ,Nat.add_zero] at q0 q1 q2 q3 q5
 simp only at l1 l2
 rw[if_neg (by rw[h1];simp)] at q2
 rw[if_pos hw] at q3
 rw[if_neg hne] at q0
 simp only[cS] at dQ
 cases hb:r.bg t with
 |true=>
  rw[hb] at q5
  have RA:bP rep ops ns (fs (aM ops d r) (t*8+5) (.bool true)) { r with bg:=fs r.bg t true,ev:=r.ev } k d (upd C (41,0) (some (.cells (PT.ofList .leaf 0 (cQ (8*ns) (fs (aM ops d r) (t*8+5) (.bool true)))) false))):=bP.of R (F.bC R.rep (by omega)) (rE R.bA) ah (fun u=>rR) (fun c=>by simp(disch:=first |decide |assumption |omega) only[rM,rW,rL,ah,au,aR,aG];exact R.ev c) rR rfl
  have hA:∀ u j,aZ ops d r u j=aZ ops d r u j:=fun _ _=>rfl
  have hX:Fx d C d (upd C (41,0) (some (.cells (PT.ofList .leaf 0 (cQ (8*ns) (fs (aM ops d r) (t*8+5) (.bool true)))) false))):=⟨rfl,fun a b c=>⟨rfl,rR⟩⟩
  refine aC (N:=115) Tryz.func28 rfl rfl fun z hP hO hro hN hQ=>?_
  repeat' first |simp(disch:=first |omega |assumption) only[go_sem, *] | (apply xs<;>intro _)<;>try omega | ((with_reducible refine bR 11 ?_);refine dz 115 11 w28_11 ?_)
  have en:=F.E_ (S.set (41,0) (.cells (PT.ofList .leaf 0 (cQ (8*ns) (fs (aM ops d r) (t*8+5) (.bool true)))) false) R.dJ rfl) RA.rep hk ht hw
  refine eJ (en) (by simp only[*]) (by simp only[*]) (by simp only[go_sem, *]) (by simp only[go_sem, *]) ?_
  rintro rr h2 n2 ⟨d2,C2,rfl,S2,R2,cz,hp⟩
  clear en dQ qR
  cases hd:e.wt (e.aQ r.s t) t with
  |true=>
   repeat' first |simp(disch:=first |omega |assumption) only[go_sem, *] | (apply xs<;>intro _)<;>try omega
   simpa using Km fit RA hA hX ht h1 hw cz hp S2 R2 hd
  |false=>
   repeat' first |simp(disch:=first |omega |assumption) only[go_sem, *] | (apply xs<;>intro _)<;>try omega
   rw[←(cz.dZ 40 0 (by omega)).1.trans hX.m]
   refine eJ (sK (kd:=4) (ns:=ns) (nn:=r.n) (l:=r.ev) (t:=t) (v:=v) S2 ((cz.dZ 40 0 (by omega)).2.trans (RA.bA.trans (by rw[mW cz]))) (fun c=>(cz.dZ 43 0 (by omega)).2.trans (RA.ev c)) (by first |omega | (simp only[List.length_append,List.length_cons,List.length_nil];omega)) (by omega) hv) (by simp only[*]) (by simp only[*]) (by simp only[go_sem, *]) (by simp only[go_sem, *]) ?_
   rintro Ze h3 n3 ⟨rfl,g4,Y1,S4⟩
   repeat' first |simp(disch:=first |omega |assumption) only[go_sem, *] | (apply xs<;>intro _)<;>try omega
   simpa using Kn F fit RA hA hX ht h1 hw cz R2 S4
 |false=>
  rw[hb] at q5
  refine aC (N:=115) Tryz.func28 rfl rfl fun z hP hO hro hN hQ=>?_
  repeat' first |simp(disch:=first |omega |assumption) only[go_sem, *] | (apply xs<;>intro _)<;>try omega | ((with_reducible refine bR 11 ?_);refine dz 115 11 w28_11 ?_)
  refine eJ (sK (kd:=3) (ns:=ns) (nn:=r.n) (l:=r.ev) (t:=t) (v:=v) S R.bA (fun c=>R.ev c) (by omega) (by omega) hv) (by simp only[*]) (by simp only[*]) (by simp only[go_sem, *]) (by simp only[go_sem, *]) ?_
  rintro rr0 h0 n0 ⟨rfl,g,hg,S3⟩
  have OT:(upd (upd C (43,0) (row (oZ (r.ev++[(r.n,t,3,v)])))) (40,0) (row (cS (upd d (43,0) g) ns r.n (r.ev++[(r.n,t,3,v)])))) (41,0)=row (cQ (8*ns) (aM ops d r)):=rE R.dJ
  have V3:upd d (43,0) g (41,0)=d (41,0):=au (by decide)
  have V2:upd d (43,0) g (10,t)=d (10,t):=au (by decide)
  have R9:=S3.at OT
  rw[V3] at R9
  have RA:bP rep ops ns (fs (aM ops d r) (t*8+5) (.bool true)) { r with bg:=fs r.bg t true,ev:=(r.ev++[(r.n,t,3,v)]) } k (upd d (43,0) g) (upd (upd (upd C (43,0) (row (oZ (r.ev++[(r.n,t,3,v)])))) (40,0) (row (cS (upd d (43,0) g) ns r.n (r.ev++[(r.n,t,3,v)])))) (41,0) (some (.cells (PT.ofList .leaf 0 (cQ (8*ns) (fs (aM ops d r) (t*8+5) (.bool true)))) false))):=bP.of R (F.bC (F.bC (F.bC (F.B3 R.rep (by omega)) (by omega)) (by omega)) (by omega)) rS ah (fun u=>rR) (fun c=>rS) rR (au (by decide))
  have hA:∀ u j,aZ ops (upd d (43,0) g) r u j=aZ ops d r u j:=fun _ _=>kN
  have hX:Fx d C (upd d (43,0) g) (upd (upd (upd C (43,0) (row (oZ (r.ev++[(r.n,t,3,v)])))) (40,0) (row (cS (upd d (43,0) g) ns r.n (r.ev++[(r.n,t,3,v)])))) (41,0) (some (.cells (PT.ofList .leaf 0 (cQ (8*ns) (fs (aM ops d r) (t*8+5) (.bool true)))) false))):=⟨au (by decide),fun a b c=>⟨rR,rR⟩⟩
  clear dQ qR Mz
  repeat' first |simp(disch:=first |omega |assumption) only[go_sem, *] | (apply xs<;>intro _)<;>try omega
  have en:=F.E_ (S3.set (41,0) (.cells (PT.ofList .leaf 0 (cQ (8*ns) (fs (aM ops d r) (t*8+5) (.bool true)))) false) OT V3) RA.rep hk ht hw
  rw[V2] at en
  refine eJ (en) (by simp only[*]) (by simp only[*]) (by simp only[go_sem, *]) (by simp only[go_sem, *]) ?_
  rintro rr h2 n2 ⟨d2,C2,rfl,S2,R2,cz,hp⟩
  clear en R9
  cases hd:e.wt (e.aQ r.s t) t with
  |true=>
   repeat' first |simp(disch:=first |omega |assumption) only[go_sem, *] | (apply xs<;>intro _)<;>try omega
   simpa using Km fit RA hA hX ht h1 hw cz (hp.trans V2.symm) S2 R2 hd
  |false=>
   repeat' first |simp(disch:=first |omega |assumption) only[go_sem, *] | (apply xs<;>intro _)<;>try omega
   rw[←(cz.dZ 40 0 (by omega)).1.trans hX.m]
   refine eJ (sK (kd:=4) (ns:=ns) (nn:=r.n) (l:=(r.ev++[(r.n,t,3,v)])) (t:=t) (v:=v) S2 ((cz.dZ 40 0 (by omega)).2.trans (RA.bA.trans (by rw[mW cz]))) (fun c=>(cz.dZ 43 0 (by omega)).2.trans (RA.ev c)) (by first |omega | (simp only[List.length_append,List.length_cons,List.length_nil];omega)) (by omega) hv) (by simp only[*]) (by simp only[*]) (by simp only[go_sem, *]) (by simp only[go_sem, *]) ?_
   rintro Ze h3 n3 ⟨rfl,g4,Y1,S4⟩
   repeat' first |simp(disch:=first |omega |assumption) only[go_sem, *] | (apply xs<;>intro _)<;>try omega
   simpa using Kn F fit RA hA hX ht h1 hw cz R2 S4
end Go.Proofs.YtbceiadaihphaaaGreat
