/-
  A part of the proof: contracts of inner functions.
-/
import Derived.Test.YtbceiadaihphaaaGreatRX14
import Derived.Test.YtbceiadaihphaaaGreatRN
import Derived.Test.YtbceiadaihphaaaGreatRV5
set_option linter.unusedVariables false
set_option linter.unusedSimpArgs false
namespace Go.Proofs.YtbceiadaihphaaaGreat
open Go.Am
variable {e:gT} {x:eG e} {rep:e.σ→List Value→(Rl→Nat)→(Rl→Option aj)→Prop}
set_option maxRecDepth 100000 in
set_option maxHeartbeats 2000000 in
theorem I1 {ns:Nat} {h:PT aj} {k:List Value} {n t:Nat} {d:Rl→Nat} {C:Rl→Option aj} {ops:Ops} {r:RS e} (S:St h n d C) (R:bP rep ops ns (aM ops d r) r k d C) (ht:t<ns):
  b9 Tryz.prog OP 14 [pt (d (40,0)),I6 t] h n fun v h' n'=>v=dY [I6 (r.idx t),I6 0]∧St h' n' d C:=by
 have dQ:=S.at R.bA
 have qR:=S.at R.dJ
 have uc:=S.lt R.bA
 have Aw:=S.lt R.dJ
 have t1:(t:Int)<ns:=by omega
 have t2: ¬ (ns:Int)≤t:=by omega
 have t3: ¬ (t:Int)<0:=by omega
 have q1:aM ops d r (t*8+1)=aZ ops d r t 1:=aL (by omega)
 simp only[aZ] at q1
 simp only[cS] at dQ
 refine aC (N:=30) Tryz.func14 rfl rfl fun z hP hO hro hN hQ=>?_
 repeat' first |simp(disch:=first |omega |assumption) only[go_sem, *] | (apply xs<;>intro _)<;>try omega
set_option maxRecDepth 100000 in
set_option maxHeartbeats 2000000 in
theorem R_ {ns:Nat} {x:Int} {h:PT aj} {n:Nat} {d:Rl→Nat} {C:Rl→Option aj} (S:St h n d C) (cq:0<ns∧ns≤64):
  b9 Tryz.prog OP 27 [I6 ns,I6 x] h n fun v h' n'=>v=dY [I6 ((x.tmod ns+ns).tmod ns),I6 0]∧St h' n' d C:=by
 have t1: ¬ (ns:Int)<1:=by omega
 have t2: ¬ (64:Int)<ns:=by omega
 have t3: ¬ (ns:Int)≤0:=by omega
 have t4: ¬ (ns:Int)=0:=by omega
 have b1:=Int.tmod_lt_of_pos x (show (0:Int)<ns by omega)
 have b2:=Int.lt_tmod_of_pos x (show (0:Int)<ns by omega)
 refine aC (N:=15) Tryz.func27 rfl rfl fun z hP hO hro hN hQ=>?_
 repeat' first |simp(disch:=first |omega |assumption) only[go_sem, *] | (apply xs<;>intro _)<;>try omega |refine fun (_ _:List Nat)=>?_ | (first |refine aT Tryz.func55 rfl ?_ ?_ ?_ ?_ |refine aT Tryz.func56 rfl ?_ ?_ ?_ ?_ |fail)<;>intros
end Go.Proofs.YtbceiadaihphaaaGreat
namespace Go.Proofs.YtbceiadaihphaaaGreat
open Go.Am
variable {e:gT} {x:eG e} {rep:e.σ→List Value→(Rl→Nat)→(Rl→Option aj)→Prop}
def RS.mid (ops:Ops) (r:RS e) (t:Nat):RS e:=
 if e.br r.s t=true then { r with s:=e.aP r.s t,ev:=if e.br (e.aP r.s t) t=true then r.ev else r.ev++[(r.n,t,1,r.val t)] }
 else if e.wt r.s t=true then { r with s:=e.aQ r.s t,bg:=fs r.bg t true,ev:=(if r.bg t=true then r.ev else r.ev++[(r.n,t,3,r.setOf ops t)])++(if e.wt (e.aQ r.s t) t=true then [] else [(r.n,t,4,r.setOf ops t)]) }
 else if r.pc t=1 then r
 else { r with s:=e.exit r.s t,ev:=r.ev++[(r.n,t,2,r.val t)] }
def RS.dn (r:RS e) (t:Nat):Bool:=if e.br r.s t=true then !e.br (e.aP r.s t) t else if e.wt r.s t=true then !e.wt (e.aQ r.s t) t else true
def RS.ac (x:eG e) (r:RS e) (t:Nat):List Value:=if e.br r.s t=true then x.aE r.s t else if e.wt r.s t=true then x.aW r.s t else if r.pc t≤1 then [] else x.aX r.s t
theorem ME {ns:Nat} (F:gp e x ns rep) (fit:e.Fits) {xp:Nat} (ve:1<xp∧xp<256) (hpx:x.CU=xp) {h:PT aj} {k:List Value} {n t:Nat} {d:Rl→Nat} {C:Rl→Option aj} {ops:Ops} {r:RS e} (ok:kW ops ns) (S:St h n d C) (R:bP rep ops ns (aM ops d r) r k d C) (ht:t<ns) (cq:ns≤64) (hk:k.length≤540000) (hl:r.ev.length≤90000) (one:One e r.s) (a:At ops xp r t) (act:r.d_ t) (hv:∀ k,e.br r.s k=true∨e.bB r.s k=true→r.val k<64):
  b9 Tryz.prog OP 28 [pt (d (40,0)),I6 t] h n fun w h' n'=>kO rep ops ns t k (RS.nx x.hJ x.h_ r t) (RS.ac x r t) (r.dn t) (r.mid ops t) d C w h' n':=by
 unfold RS.mid RS.dn RS.nx RS.ac
 cases a with
 |over a0 a1 a2 a3=>rcases act with q |q |q<;>simp_all
 |br v a0 a1 a2 a3 a4 a5=>rw[if_pos a2,if_pos a2,if_pos a2,if_pos a2];exact MA F fit S R ht cq hk hl a2 ((one t).1 a2).1 a3 (hv t (.inl a2))
 |wait v a0 a1 a2 a3 a4=>
  have hs:r.setOf ops t=v:=by unfold RS.setOf;rw[a0]
  rw[if_neg (by rw[a2];simp),if_pos a3,if_neg (by rw[a2];simp),if_pos a3,if_neg (by rw[a2];simp),if_pos a3,if_neg (by rw[a2];simp),if_pos a3,hs]
  exact MD F fit S R ht cq hk hl a2 a3 a0 ((ok t ht).2 _ (List.mem_of_getElem? a0)).2
 |exit a0 a1 a2 a3 a4=>
  simp only[a1,a2,a3,Bool.false_eq_true,if_false]
  rw[if_neg (by omega),if_neg (by omega),←hpx]
  exact MC F fit S R ht cq hk hl a1 a2 a4 (by rw[a3];omega) (by rw[a3];omega) (hv t (.inr a4))
 |refuse o a0 a1 a2 a3=>
  simp only[a1,a2,a3,Bool.false_eq_true,if_false,if_true,Nat.le_refl]
  exact MB F fit S R ht cq hk hl a1 a2 a3
end Go.Proofs.YtbceiadaihphaaaGreat
namespace Go.Proofs.YtbceiadaihphaaaGreat
open Go.Am
variable {e:gT} {x:eG e} {rep:e.σ→List Value→(Rl→Nat)→(Rl→Option aj)→Prop}
theorem l6 {ops:Ops} {xp:Nat} {r:RS e} {t:Nat} (act:r.d_ t):RS.step ops xp r t=if r.dn t=true then RS.next ops xp (r.mid ops t) t else r.mid ops t:=by
 unfold RS.step RS.mid RS.dn
 by_cases h1:e.br r.s t=true
 ·simp only[if_pos h1]
  cases h2:e.br (e.aP r.s t) t<;>simp
 ·simp only[if_neg h1]
  by_cases h3:e.wt r.s t=true
  ·simp only[if_pos h3]
   cases h4:e.wt (e.aQ r.s t) t<;>simp
  ·simp only[if_neg h3]
   by_cases h5:r.pc t=1
   ·simp[h5]
   ·simp[h5]
end Go.Proofs.YtbceiadaihphaaaGreat
namespace Go.Proofs.YtbceiadaihphaaaGreat
open Go.Am
variable {e:gT} {x:eG e} {rep:e.σ→List Value→(Rl→Nat)→(Rl→Option aj)→Prop}
noncomputable def RS.pick (ops:Ops) (xp:Nat) (r:RS e) (t:Nat):RS e:=open Classical in RS.up (if r.d_ t then RS.step ops xp r t else r)
theorem FA {ops:Ops} {d:Rl→Nat} {a b g:Nat} {r:RS e} {u j:Nat} (ha:43≤a):aZ ops (upd d (a,b) g) r u j=aZ ops d r u j:=by
 match j with
 |0=>simp only[aZ];rw[au (by omega)]
 |1=>rfl
 |2=>simp only[aZ];rw[au (by omega)]
 |3=>simp only[aZ];rw[au (by omega)]
 |4=>rfl
 |5=>rfl
 |6=>rfl
 |j+7=>rfl
theorem iI {ops:Ops} {d:Rl→Nat} {a b g:Nat} {r:RS e} (ha:43≤a):aM ops (upd d (a,b) g) r=aM ops d r:=by
 funext i;exact FA ha
theorem xe {d:Rl→Nat} {a b g ns n:Nat} {l:List (Nat×Nat×Nat×Nat)} (ha:45≤a):cS (upd d (a,b) g) ns n l=cS d ns n l:=by
 unfold cS Av
 rw[au (by omega),au (by omega),au (by omega),au (by omega),au (by omega)]
theorem bP.FB {ns:Nat} (F:gp e x ns rep) {ops:Ops} {k:List Value} {a b i:Nat} {r:RS e} {d:Rl→Nat} {C:Rl→Option aj} {B:Option aj} {f:Nat→Value} (ha:45≤a) (R:bP rep ops ns f r k d C):bP rep ops ns f r k (upd d (a,b) i) (upd C (a,b) B):=by
 refine bP.of R (F.bC (F.B3 R.rep (by omega)) (by omega)) ?_ ?_ (fun u=>?_) (fun c=>?_) ?_ ?_
 ·rw[au (by omega),xe ha];exact R.bA
 ·rw[au (by omega)];exact R.dJ
 ·rw[au (by omega)]
 ·rw[au (by omega)];exact R.ev c
 ·rw[au (by omega)]
 ·rw[au (by omega)]
theorem hH.FB {ns:Nat} (F:gp e x ns rep) {ops:Ops} {k:List Value} {n:Nat} {r:RS e} {d d3:Rl→Nat} {C C3:Rl→Option aj} {h:PT aj} (S:St h n d3 C3) (R:bP rep ops ns (aM ops d3 r) r k d3 C3) (hm:d3 (40,0)=d (40,0)) (c8:C (98,0)=none) (c9:C (99,0)=none) (hx:∀ s:Rl,60≤s.1→s≠(98,0)→s≠(99,0)→d3 s=d s∧C3 s=C s):hH rep ops ns r k d C h n:=by
 have S1:=(S.drop (98,0)).nC (d':=upd d3 (98,0) (d (98,0))) (98,0) ah (fun s c=>ay c)
 have S2:=(S1.drop (99,0)).nC (d':=upd (upd d3 (98,0) (d (98,0))) (99,0) (d (99,0))) (99,0) ah (fun s c=>ay c)
 refine⟨_,_,S2,?_,⟨rE hm,fun a b ha=>?_⟩⟩
 ·rw[iI (by omega),iI (by omega)]
  exact(R.FB F (by omega)).FB F (by omega)
 ·by_cases c1:((a,b):Rl)=(99,0)
  ·rw[c1,ah,ah];exact⟨rfl,c9.symm⟩
  ·rw[ay c1,ay c1]
   by_cases c2:((a,b):Rl)=(98,0)
   ·rw[c2,ah,ah];exact⟨rfl,c8.symm⟩
   ·rw[ay c2,ay c2];exact hx _ ha c2 c1
theorem xg {P:Program} {O:dK} {f:FuncId} {args:List Value} {h:PT aj} {N:Nat} {R:Value→PT aj→Nat→Prop} {p:Prop} (H:b9 P O f args h N R) (q:∀ v h' n',R v h' n'→p):p:=by
 obtain⟨_,v,h',n',_,r⟩:=H
 exact q v h' n' r
theorem MF {ns:Nat} {hJ h_:e.σ→Nat→Int} (N:qu e ns rep hJ h_) {h:PT aj} {k:List Value} {n t:Nat} {d:Rl→Nat} {C:Rl→Option aj} {ops:Ops} {f:Nat→Value} {r:RS e} (S:St h n d C) (R:bP rep ops ns f r k d C) (ht:t<ns):RS.nx hJ h_ r t≠0↔r.d_ t:=by
 unfold RS.nx RS.d_
 by_cases h1:e.br r.s t=true
 ·rw[if_pos h1]
  exact⟨fun _ => .inl h1,fun _=>xg (N.Fq S R.rep ht h1) fun _ _ _ q=>q.2.1⟩
 ·rw[if_neg h1]
  by_cases h2:e.wt r.s t=true
  ·rw[if_pos h2]
   exact⟨fun _ => .inr (.inl h2),fun _=>xg (N.Ft S R.rep ht h2) fun _ _ _ q=>q.2.1⟩
  ·rw[if_neg h2]
   exact⟨fun c => .inr (.inr (by omega)),fun c=>by
    rcases c with c |c |c
    ·exact absurd c h1
    ·exact absurd c h2
    ·omega⟩
theorem sM {ops:Ops} {xp:Nat} {r:RS e} {t:Nat} (fit:e.Fits) (one:One e r.s) (a:At ops xp r t) (act:r.d_ t) (hd:r.dn t=true):e.br (r.mid ops t).s t=false∧e.wt (r.mid ops t).s t=false∧(r.mid ops t).idx t=r.idx t∧r.idx t+1≤(ops t).length:=by
 unfold RS.dn at hd
 unfold RS.mid
 cases a with
 |over a0 a1 a2 a3=>rcases act with q |q |q<;>simp_all
 |br v a0 a1 a2 a3 a4 a5=>
  rw[if_pos a2] at hd ⊢
  obtain⟨f1,f2,f3⟩:=fit.aP r.s t a2 ((one t).1 a2).1
  exact⟨by simpa using hd,(f3 t).trans a3,rfl,jY a0⟩
 |wait v a0 a1 a2 a3 a4=>
  rw[if_neg (by rw[a2];simp),if_pos a3] at hd ⊢
  obtain⟨f1,f2,f3⟩:=fit.aQ r.s t
  exact⟨(f1 t).trans a2,by simpa using hd,rfl,jY a0⟩
 |exit a0 a1 a2 a3 a4=>
  rw[if_neg (by rw[a1];simp),if_neg (by rw[a2];simp)]
  split
  ·exact⟨a1,a2,rfl,jY a0⟩
  ·obtain⟨f1,f2,f3⟩:=fit.exit r.s t a4
   exact⟨(f1 t).trans a1,(f3 t).trans a2,rfl,jY a0⟩
 |refuse o a0 a1 a2 a3=>
  rw[if_neg (by rw[a1];simp),if_neg (by rw[a2];simp),if_pos a3]
  exact⟨a1,a2,rfl,jY a0⟩
theorem Ay {ops:Ops} {r:RS e} {t:Nat}:(r.mid ops t).n=r.n:=by
 unfold RS.mid;split
 ·rfl
 ·split
  ·rfl
  ·split<;>rfl
end Go.Proofs.YtbceiadaihphaaaGreat
namespace Go.Proofs.YtbceiadaihphaaaGreat
open Go.Am
variable {e:gT} {x:eG e} {rep:e.σ→List Value→(Rl→Nat)→(Rl→Option aj)→Prop}
theorem _root_.Go.Am.St.cast {h h':PT aj} {n:Nat} {d:Rl→Nat} {C:Rl→Option aj} (S:St h n d C) (e:h=h'):St h' n d C:=e ▸ S
theorem bP.MG {ns:Nat} (F:gp e x ns rep) {ops:Ops} {k:List Value} {a b i:Nat} {r:RS e} {d:Rl→Nat} {C:Rl→Option aj} {B:Option aj} (ha:45≤a) (R:bP rep ops ns (aM ops d r) r k d C):bP rep ops ns (aM ops (upd d (a,b) i) r) r k (upd d (a,b) i) (upd C (a,b) B):=by
 rw[iI (by omega)];exact R.FB F ha
theorem bP.Zf {ns:Nat} (F:gp e x ns rep) {ops:Ops} {k:List Value} {r:RS e} {d:Rl→Nat} {C:Rl→Option aj} (R:bP rep ops ns (aM ops d r) r k d C):bP rep ops ns (aM ops d r.up) r.up k d (upd C (40,0) (row (cS d ns (r.n+1) r.ev))):=by
 have q:aM ops d r.up=aM ops d r:=rfl
 rw[q]
 exact bP.of R (F.bC R.rep (by omega)) ah (by rw[au (by decide)];exact R.dJ) (fun u=>by rw[au (by decide)]) (fun c=>by rw[au (by decide)];exact R.ev c) (by rw[au (by decide)]) rfl
noncomputable def RS.dd (r:RS e) (t:Nat):Bool:=open Classical in if r.d_ t then r.dn t else false
theorem Az {hJ h_:e.σ→Nat→Int} {r:RS e} {t:Nat} (h: ¬ r.d_ t):RS.nx hJ h_ r t=0∧RS.ac x r t=[]∧RS.dd r t=false:=by
 have h':=h
 unfold RS.d_ at h'
 have h1: ¬ e.br r.s t=true:=fun q=>h' (.inl q)
 have h2: ¬ e.wt r.s t=true:=fun q=>h' (.inr (.inl q))
 have h3:r.pc t=0:=Classical.byContradiction fun q=>h' (.inr (.inr q))
 refine⟨?_,?_,?_⟩
 ·unfold RS.nx;rw[if_neg h1,if_neg h2,h3];rfl
 ·unfold RS.ac;rw[if_neg h1,if_neg h2,if_pos (by omega)]
 ·unfold RS.dd;rw[if_neg h]
theorem MH {ops:Ops} {xp:Nat} {r:RS e} {t:Nat} (p:(∀ s t,1<x.hJ s t∧x.hJ s t<256)∧(∀ s t,1<x.h_ s t∧x.h_ s t<256)∧1<x.CU∧x.CU<256) (act:r.d_ t):1≤RS.nx x.hJ x.h_ r t:=by
 unfold RS.nx
 unfold RS.d_ at act
 split
 ·have:=(p.1 r.s t).1;omega
 ·split
  ·have:=(p.2.1 r.s t).1;omega
  ·rcases act with q |q |q
   ·contradiction
   ·contradiction
   ·omega
theorem FC {r:RS e} {t:Nat} (p:∀ s t,jc t (x.aE s t)∧jc t (x.aW s t)∧jc t (x.aX s t)):(RS.ac x r t).length≤6:=by
 have q:∀ l,jc t l→l.length≤6:=fun l h=>by obtain⟨_,_,_,_,_,rfl⟩:=h;exact Nat.le_refl _
 unfold RS.ac
 split
 ·exact q _ (p r.s t).1
 ·split
  ·exact q _ (p r.s t).2.1
  ·split
   ·exact Nat.zero_le _
   ·exact q _ (p r.s t).2.2
theorem Ko {y:Int} (h:1≤y):(decide ¬y=1)=decide (1<y):=by
 rw[decide_eq_decide];omega
theorem bP.sN {ns:Nat} (F:gp e x ns rep) {ops:Ops} {k:List Value} {a b:Nat} {r:RS e} {d:Rl→Nat} {C:Rl→Option aj} {B:Option aj} {f:Nat→Value} (ha:45≤a) (R:bP rep ops ns f r k d C):bP rep ops ns f r k d (upd C (a,b) B):=by
 have:=R.FB (a:=a) (b:=b) (i:=d (a,b)) (B:=B) F ha
 rwa [sn rfl] at this
theorem bP.bump {ns:Nat} (F:gp e x ns rep) {ops:Ops} {k:List Value} {r:RS e} {y:Nat→Nat} {d:Rl→Nat} {C:Rl→Option aj} {f g:Nat→Value} (R:bP rep ops ns f r k d C):bP rep ops ns g ({ r with idx:=y }:RS e) k d (upd C (41,0) (some (.cells (PT.ofList .leaf 0 (cQ (8*ns) g)) false))):=
 bP.of R (F.bC R.rep (by omega)) (by rw[au (by decide)];exact R.bA) ah (fun u=>by rw[au (by decide)]) (fun c=>by rw[au (by decide)];exact R.ev c) (by rw[au (by decide)]) rfl
theorem Kq {ops:Ops} {xp:Nat} {r:RS e} {k:Nat}:(RS.ct ops xp r k).n=r.n:=by
 unfold RS.ct;split
 ·rfl
 ·split
  ·rfl
  ·split
   ·rfl
   ·split<;>rfl
theorem xh {ops:Ops} {d:Rl→Nat} {r:RS e} {t u j:Nat} {y:Nat} (h:u≠t∨j≠1):aZ ops d ({ r with idx:=fs r.idx t y }:RS e) u j=aZ ops d r u j:=by
 match j with
 |0=>rfl
 |1=>
  rcases h with h |h
  ·show I6 ((fs r.idx t y u:Nat):Int)=I6 (r.idx u:Nat);rw[az h]
  ·exact absurd rfl h
 |2=>rfl
 |3=>rfl
 |4=>rfl
 |5=>rfl
 |6=>rfl
 |j+7=>rfl
theorem FD {ops:Ops} {ns t:Nat} {d:Rl→Nat} {r:RS e} {f:Nat→Value} (ho:va ops ns t d r f):va ops ns t d ({ r with idx:=fs r.idx t (r.idx t+1) }:RS e) (fs f (t*8+1) (I6 ((r.idx t:Int)+1))):=by
 refine⟨fun u j hu c hj=>?_,fun j hj h2 h3 h4=>?_⟩
 ·rw[az (by omega),xh (.inl c)];exact ho.1 u j hu c hj
 ·by_cases c:j=1
  ·subst c
   rw[aA]
   show _=I6 ((fs r.idx t (r.idx t+1) t:Nat):Int)
   rw[aA];rfl
  ·rw[az (by omega),xh (.inr c)];exact ho.2 j hj h2 h3 h4
set_option maxRecDepth 100000 in
set_option maxHeartbeats 4000000 in
theorem MI {ns:Nat} (cq:0<ns∧ns≤64) (F:gp e x ns rep) (N:qu e ns rep x.hJ x.h_) (fit:e.Fits) {kd xp:Nat} (je:∀ {s k d C},rep s k d C→∃ x z,C (4,0)=row [x,U8 kd,z]) (ve:xp=if kd=3 then 16 else 13) (hpx:x.CU=xp) {h:PT aj} {n t:Nat} {k:List Value} {pk:Int} {d:Rl→Nat} {C:Rl→Option aj} {ops:Ops} {r:RS e} (ok:kW ops ns) (S:St h n d C) (R:bP rep ops ns (aM ops d r) r k d C) (ht:t<ns) (hx:(pk.tmod ns+ns).tmod ns=t) (one:One e r.s) (a:At ops xp r t) (hv:∀ k,e.br r.s k=true∨e.bB r.s k=true→r.val k<64) (hk:k.length≤539000) (hl:r.ev.length≤80000) (hn:r.n≤1000000) (c8:C (98,0)=none) (c9:C (99,0)=none):
  b9 Tryz.prog OP 13 [pt (d (40,0)),I6 pk] h n fun v h' n'=>v=dY [.agg ⟨[I6 t,U8 (RS.nx x.hJ x.h_ r t),.bool (decide (1<RS.nx x.hJ x.h_ r t)),.bool (RS.dd r t),.bool (RS.dd r t)]⟩,I6 0]∧hH rep ops ns (RS.pick ops xp r t) (k++RS.ac x r t) d C h' n':=by
 subst ve
 have dQ:=S.at R.bA
 have uc:=S.lt R.bA
 have t1:(t:Int)<ns:=by omega
 simp only[cS] at dQ
 refine aC (N:=77) Tryz.func13 rfl rfl fun z hP hO hro hN hQ=>?_
 repeat' first |simp(disch:=first |omega |assumption) only[go_sem, *] | (apply xs<;>intro _)<;>try omega
 refine eJ (R_ (S.new (98,0) _ bG bH) cq) (by simp only[*]) (by simp only[*]) (by simp only[go_sem, *]) (by simp only[go_sem, *]) ?_
 rintro rr h1 n1 ⟨rfl,S1⟩
 rw[hx]
 have R1:=bP.MG (a:=98) (b:=0) (i:=n) (B:=row [I6 0,U8 0,.bool false,.bool false,.bool false]) F (by omega) R
 have MJ:=S1.at R1.bA
 rw[au (by decide),xe (by omega)] at MJ
 simp only[cS] at MJ
 have Zg:=S1.lt R1.bA
 rw[au (by decide)] at Zg
 clear dQ
 repeat' first |simp(disch:=first |omega |assumption) only[go_sem, *] | (apply xs<;>intro _)<;>try omega
 obtain⟨d2,C2,S2,R2,z8,z9,OU,OV,zx⟩:∃ d2 C2,St ((h1.set n1 (some (.cells (PT.ofList .leaf 0 [I6 0,U8 0,.bool false,.bool false,.bool false]) false))).set n1 (some (.cells (PT.ofList .leaf 0 [I6 t,U8 0,.bool false,.bool false,.bool false]) false))) (n1+1) d2 C2∧bP rep ops ns (aM ops d2 r) r k d2 C2∧C2 (98,0)=row [I6 0,U8 0,.bool false,.bool false,.bool false]∧C2 (99,0)=row [I6 t,U8 0,.bool false,.bool false,.bool false]∧d2 (98,0)=n∧d2 (99,0)=n1∧∀ s,s≠(98,0)→s≠(99,0)→d2 s=d s∧C2 s=C s:=⟨_,_,((S1.new (99,0) _ bG bH).set (99,0) (.cells (PT.ofList .leaf 0 [I6 t,U8 0,.bool false,.bool false,.bool false]) false) ah ah).eq aN rfl,bP.MG F (by omega) R1,rS,rS,rS,rS,fun s h8 h9=>⟨by rw[ay h9,ay h8],by rw[ay h9,ay h8]⟩⟩
 clear R1 S1 MJ
 have act:=MF N S2 R2 ht
 have Gp:d2 (40,0)=d (40,0):=(zx _ (by decide) (by decide)).1
 have OT:d2 (41,0)=d (41,0):=(zx _ (by decide) (by decide)).1
 have en:=Fz N S2 R2 ht
 rw[OT] at en
 refine eJ (en) (by simp only[*]) (by simp only[*]) (by simp only[go_sem, *]) (by simp only[go_sem, *]) ?_
 rintro rr h2 n2 ⟨rfl,S3⟩
 clear en S2
 by_cases hact:r.d_ t
 ·have Dv:=act.2 hact
  have en:=ME F fit (xp:=if kd=3 then 16 else 13) (by split<;>decide) hpx ok S3 R2 ht cq.2 (by omega) (by omega) one a hact hv
  have dQ:=S3.at R2.bA
  rw[Gp] at dQ en
  simp only[cS] at dQ
  have I2:=S3.at z9
  rw[OV] at I2
  have hmn:(RS.mid ops r t).n=r.n:=Ay
  repeat' first |simp(disch:=first |omega |assumption) only[go_sem, *] | (apply xs<;>intro _)<;>try omega
  refine eJ (en) (by simp only[*]) (by simp only[*]) (by simp only[go_sem, *]) (by simp only[go_sem, *]) ?_
  rintro rr h3 n3 ⟨d3,C3,f,rfl,S4,R4,X4,ho,hf⟩
  clear en dQ I2 S3
  have vg:d3 (40,0)=d (40,0):=X4.m.trans Gp
  have y8:=(X4.x 98 0 (by omega)).2.trans z8
  have y9:=(X4.x 99 0 (by omega)).2.trans z9
  have MK:=(X4.x 98 0 (by omega)).1.trans OU
  have AA:=(X4.x 99 0 (by omega)).1.trans OV
  have OW:=S4.at y8
  have I2:=S4.at y9
  have dQ:=S4.at R4.bA
  rw[MK] at OW
  rw[AA] at I2
  rw[vg] at dQ
  simp only[cS] at dQ
  have Sb:=S4.lt y8
  have Sc:=S4.lt y9
  rw[MK] at Sb
  rw[AA] at Sc
  have Fy:=S4.lt R4.bA
  rw[vg] at Fy
  have w1:=S4.df R4.bA y8 (by simp)
  have w2:=S4.df R4.bA y9 (by simp)
  have w3:=S4.df y8 y9 (by simp)
  rw[vg,MK] at w1
  rw[vg,AA] at w2
  rw[MK,AA] at w3
  have hnp:1≤RS.nx x.hJ x.h_ r t:=MH (ops:=ops) (xp:=0) F.OL hact
  have hal:=FC (r:=r) (t:=t) F.Fa
  have hdd:RS.dd r t=r.dn t:=by unfold RS.dd;rw[if_pos hact]
  cases hd:r.dn t with
  |false=>
   repeat' first |simp(disch:=first |omega |assumption) only[go_sem, *] | (apply xs<;>intro _)<;>try omega
   have hT:=hf hd
   have R5:bP rep ops ns (aM ops d3 (RS.mid ops r t)) (RS.mid ops r t) (k++RS.ac x r t) d3 C3:=bP.of R4 R4.rep R4.bA (R4.dJ.trans (by rw[hT])) (fun _=>rfl) (fun c=>R4.ev c) rfl rfl
   refine⟨by rw[Ko hnp],?_⟩
   have hp:RS.pick ops (if kd=3 then 16 else 13) r t=(RS.mid ops r t).up:=by
    unfold RS.pick;rw[if_pos hact,l6 hact,hd];rfl
   rw[hp]
   have hu:((RS.mid ops r t).n:Int)+1=(r.n:Int)+1:=by rw[hmn]
   have hm:cS d3 ns ((RS.mid ops r t).n+1) (RS.mid ops r t).ev=[pt (d3 rM),pt (d3 (4,0)),.slice (some ⟨d3 (41,0),0,none⟩) ns (aB+8),Av d3 (RS.mid ops r t).ev,I6 ((r.n:Int)+1),.map (some (d3 (44,0)))]:=by rw[←hu];rfl
   refine hH.FB F ((((((S4.set (99,0) _ y9 AA).set (99,0) _ ah AA).set (99,0) _ ah AA).set (99,0) _ ah AA).set (40,0) (.cells (PT.ofList .leaf 0 (cS d3 ns ((RS.mid ops r t).n+1) (RS.mid ops r t).ev)) false) (rE R4.bA) vg |>.cast (by rw[hm])).set (98,0) _ (rE y8) MK) ((((((R5.sN F (by omega)).sN F (by omega)).sN F (by omega)).sN F (by omega)).Zf F).sN F (by omega)) vg c8 c9 fun s hs h8 h9=>?_
   have h4:s≠(40,0):=fun q=>by rw[q] at hs;omega
   rw[ay h8,ay h4,ay h9,ay h9,ay h9,ay h9]
   obtain⟨sa,sb⟩:=s
   exact⟨(X4.x sa sb hs).1.trans (zx _ h8 h9).1,(X4.x sa sb hs).2.trans (zx _ h8 h9).2⟩
  |true=>
   obtain⟨i1,i2,i3,i4⟩:=sM (ops:=ops) fit one a hact hd
   have qR:=S4.at R4.dJ
   have Aw:=S4.lt R4.dJ
   have w4:=S4.df R4.bA R4.dJ (by simp)
   have w5:=S4.df R4.dJ y9 (by simp)
   have w6:=S4.df R4.dJ y8 (by simp)
   rw[vg] at w4
   rw[AA] at w5
   rw[MK] at w6
   have vo:f (t*8+1)=I6 ((RS.mid ops r t).idx t):=ho.2 1 (by omega) (by omega) (by omega) (by omega)
   have hidx:=(ok t ht).1
   rw[i3] at vo
   have ajI:r.idx t≤30:=by omega
   repeat' first |simp(disch:=first |omega |assumption) only[go_sem, *] | (apply xs<;>intro _)<;>try omega
   have ho2:=FD ho
   rw[i3] at ho2
   rw[←vg]
   refine eJ (Kl cq F fit je rfl ok (((((S4.set (99,0) _ y9 AA).set (99,0) _ ah AA).set (99,0) _ ah AA).set (99,0) _ ah AA).set (41,0) (.cells (PT.ofList .leaf 0 (cQ (8*ns) (fs f (t*8+1) (I6 ((r.idx t:Int)+1))))) false) (rE R4.dJ) rfl) (r:={ RS.mid ops r t with idx:=fs (RS.mid ops r t).idx t (r.idx t+1) }) (bP.bump F ((((R4.sN (a:=99) (b:=0) F (by omega)).sN (a:=99) (b:=0) F (by omega)).sN (a:=99) (b:=0) F (by omega)).sN (a:=99) (b:=0) F (by omega))) ho2 ht i1 i2 (by show fs _ t _ t≤_;rw[aA];exact i4) (by rw[List.length_append];omega)) (by simp only[*]) (by simp only[*]) (by simp only[go_sem, *]) (by simp only[go_sem, *]) ?_
   rintro rr h5 n5 ⟨rfl,d4,C4,S6,R6,X6⟩
   have Ct:d4 (40,0)=d (40,0):=X6.m.trans vg
   have x8:C4 (98,0)=_:=(X6.x 98 0 (by omega)).2.trans (rE y8)
   have x9:C4 (99,0)=_:=(X6.x 99 0 (by omega)).2.trans rS
   have Sd:=(X6.x 98 0 (by omega)).1.trans MK
   have V7:=(X6.x 99 0 (by omega)).1.trans AA
   clear OW I2 dQ w1 w2 w3 w4 w5 w6 qR
   have OW:=S6.at x8
   have I2:=S6.at x9
   have dQ:=S6.at R6.bA
   rw[Sd] at OW
   rw[V7] at I2
   rw[Ct] at dQ
   simp only[cS] at dQ
   have Sb:=S6.lt x8
   have Sc:=S6.lt x9
   rw[Sd] at Sb
   rw[V7] at Sc
   have Fy:=S6.lt R6.bA
   rw[Ct] at Fy
   have w1:=S6.df R6.bA x8 (by simp)
   have w2:=S6.df R6.bA x9 (by simp)
   have w3:=S6.df x8 x9 (by simp)
   rw[Ct,Sd] at w1
   rw[Ct,V7] at w2
   rw[Sd,V7] at w3
   have hR:(RS.ct ops (if kd=3 then 16 else 13) ({ RS.mid ops r t with idx:=fs (RS.mid ops r t).idx t (r.idx t+1) }:RS e) t)=RS.next ops (if kd=3 then 16 else 13) (RS.mid ops r t) t:=by unfold RS.next;rw[i3]
   rw[hR] at R6 dQ
   have Z8:(RS.next ops (if kd=3 then 16 else 13) (RS.mid ops r t) t).n=r.n:=Kq.trans Ay
   repeat' first |simp(disch:=first |omega |assumption) only[go_sem, *] | (apply xs<;>intro _)<;>try omega
   refine⟨by rw[Ko hnp],?_⟩
   have hp:RS.pick ops (if kd=3 then 16 else 13) r t=(RS.next ops (if kd=3 then 16 else 13) (RS.mid ops r t) t).up:=by
    unfold RS.pick;rw[if_pos hact,l6 hact,hd];rfl
   rw[hp]
   generalize RS.next ops (if kd=3 then 16 else 13) (RS.mid ops r t) t=q at*
   have hm:cS d4 ns (q.n+1) q.ev=[pt (d4 rM),pt (d4 (4,0)),.slice (some ⟨d4 (41,0),0,none⟩) ns (aB+8),Av d4 q.ev,I6 ((r.n:Int)+1),.map (some (d4 (44,0)))]:=by rw[←Z8];rfl
   refine hH.FB F ((S6.set (40,0) (.cells (PT.ofList .leaf 0 (cS d4 ns (q.n+1) q.ev)) false) R6.bA Ct |>.cast (by rw[hm])).set (98,0) _ (rE x8) Sd) ((R6.Zf F).sN F (by omega)) Ct c8 c9 fun s hs h8 h9=>?_
   have h4:s≠(40,0):=fun q=>by rw[q] at hs;omega
   have h5:s≠(41,0):=fun q=>by rw[q] at hs;omega
   obtain⟨sa,sb⟩:=s
   rw[ay h8,ay h4]
   refine⟨((X6.x sa sb hs).1.trans (X4.x sa sb hs).1).trans (zx _ h8 h9).1,(X6.x sa sb hs).2.trans ?_⟩
   rw[ay h5,ay h9,ay h9,ay h9,ay h9]
   exact(X4.x sa sb hs).2.trans (zx _ h8 h9).2
 ·have Dv:RS.nx x.hJ x.h_ r t=0:=Classical.byContradiction fun c=>hact (act.1 c)
  have dQ:=S3.at R2.bA
  rw[Gp] at dQ
  simp only[cS] at dQ
  have OW:=S3.at z8
  have I2:=S3.at z9
  rw[OU] at OW
  rw[OV] at I2
  have Sb:=S3.lt z8
  have Sc:=S3.lt z9
  rw[OU] at Sb
  rw[OV] at Sc
  have Fy:=S3.lt R2.bA
  rw[Gp] at Fy
  have w1:=S3.df R2.bA z8 (by simp)
  have w2:=S3.df R2.bA z9 (by simp)
  have w3:=S3.df z8 z9 (by simp)
  rw[Gp,OU] at w1
  rw[Gp,OV] at w2
  rw[OU,OV] at w3
  have Zh:=OT
  clear OT
  repeat' first |simp(disch:=first |omega |assumption) only[go_sem, *] | (apply xs<;>intro _)<;>try omega
  refine⟨by rw[(Az (x:=x) (hJ:=x.hJ) (h_:=x.h_) hact).2.2],?_⟩
  rw[(Az (x:=x) (hJ:=x.hJ) (h_:=x.h_) hact).2.1,List.append_nil]
  have hp:RS.pick ops (if kd=3 then 16 else 13) r t=r.up:=by unfold RS.pick;rw[if_neg hact]
  rw[hp]
  have hm:cS d2 ns (r.n+1) r.ev=[pt (d2 rM),pt (d2 (4,0)),.slice (some ⟨d2 (41,0),0,none⟩) ns (aB+8),Av d2 r.ev,I6 ((r.n:Int)+1),.map (some (d2 (44,0)))]:=rfl
  refine hH.FB F ((S3.set (40,0) (.cells (PT.ofList .leaf 0 (cS d2 ns (r.n+1) r.ev)) false) R2.bA Gp |>.cast (by rw[hm,Zh])).set (98,0) _ (rE z8) OU) ((R2.Zf F).sN F (by omega)) Gp c8 c9 fun s hs h8 h9=>?_
  have h4:s≠(40,0):=fun q=>by rw[q] at hs;omega
  rw[ay h8,ay h4]
  exact zx _ h8 h9
end Go.Proofs.YtbceiadaihphaaaGreat
namespace Go.Proofs.YtbceiadaihphaaaGreat
open Go.Am
variable {e:gT}
def RS.zero (s0:e.σ):RS e:=⟨s0,fun _=>0,fun _=>0,fun _=>false,fun _=>0,0,[]⟩
def RS.eK (ops:Ops) (xp:Nat) (r:RS e):Nat→RS e
 |0=>r
 |i+1=>RS.ct ops xp (RS.eK ops xp r i) i
theorem Se {ops:Ops} {xp:Nat} (fit:e.Fits) {r:RS e} {k u:Nat} (c:u≠k):e.br (RS.ct ops xp r k).s u=e.br r.s u∧e.wt (RS.ct ops xp r k).s u=e.wt r.s u:=by
 unfold RS.ct
 split
 ·exact⟨rfl,rfl⟩
 ·split
  ·rename_i q
   obtain⟨f1,f2,f3⟩:=fit.enter r.s k _ q.2.2
   exact⟨(f1 u).trans (if_neg c),f3 u⟩
  ·split
   ·exact⟨rfl,rfl⟩
   ·split
    ·obtain⟨f1,f2,f3⟩:=fit.wait r.s k _
     exact⟨f1 u,(f3 u).trans (if_neg c)⟩
    ·exact⟨rfl,rfl⟩
theorem gu {aO:e.σ→Nat→Nat→Prop} {guard fresh:e.σ→Nat→Nat→Prop} {ng:Nat} (G:e.fq ng aO guard) (Fr:e.gC ng aO guard fresh) {s0:e.σ} (idle:∀ t,e.br s0 t=false∧e.wt s0 t=false∧e.bB s0 t=false) {ops:Ops} {xp:Nat}:∀ i,gQ ops xp aO fresh i (RS.eK ops xp (RS.zero s0) i)∧(∀ u,i≤u→e.br (RS.eK ops xp (RS.zero s0) i).s u=false∧e.wt (RS.eK ops xp (RS.zero s0) i).s u=false)∧(∀ u,e.bB (RS.eK ops xp (RS.zero s0) i).s u=false)∧(RS.eK ops xp (RS.zero s0) i).idx=(fun _=>0)∧(RS.eK ops xp (RS.zero s0) i).n=0∧(RS.eK ops xp (RS.zero s0) i).ev=[]
 |0=>by
  refine⟨⟨fun t=>?_,fun k hk=>absurd hk (by omega),fun k h=>?_,fun k v hk=>absurd hk (by omega),fun k hk=>absurd hk (by omega)⟩,fun u _=>⟨(idle u).1,(idle u).2.1⟩,fun u=>(idle u).2.2,rfl,rfl,rfl⟩
  ·obtain⟨i1,i2,i3⟩:=idle t
   exact⟨fun q=>by rw[show e.br (RS.eK ops xp (RS.zero s0) 0).s t=false from i1] at q;simp at q,fun _=>i2⟩
  ·obtain⟨i1,i2,i3⟩:=idle k
   rcases h with h |h
   ·rw[show e.br (RS.eK ops xp (RS.zero s0) 0).s k=false from i1] at h;simp at h
   ·rw[show e.bB (RS.eK ops xp (RS.zero s0) 0).s k=false from i3] at h;simp at h
 |i+1=>by
  obtain⟨I,h1,h2,h3,h4,h5⟩:=gu G Fr idle (ops:=ops) (xp:=xp) i
  have p:u_ ops xp aO fresh (i+1) (RS.eK ops xp (RS.zero s0) i) i:=⟨I.one,fun u hu c=>I.at_ u (by omega),h1 i (Nat.le_refl _),I.val,fun u v hu c=>I.fr u v (by omega),fun u hu=>by rw[h3];exact Nat.zero_le _⟩
  obtain⟨I',q1,q2,q3,q4⟩:=u_.ct G Fr p
  refine⟨I',fun u hu=>?_,fun u=>(q4 u).trans (h2 u),q1.trans h3,q2.trans h4,q3.trans h5⟩
  obtain⟨b1,b2⟩:=Se (ops:=ops) (xp:=xp) G.fits (r:=RS.eK ops xp (RS.zero s0) i) (show u≠i by omega)
  obtain⟨c1,c2⟩:=h1 u (by omega)
  exact⟨b1.trans c1,b2.trans c2⟩
end Go.Proofs.YtbceiadaihphaaaGreat
namespace Go.Proofs.YtbceiadaihphaaaGreat
open Go.Am
theorem I3 {h:PT aj} {n b cap:Nat} {d:Rl→Nat} {C:Rl→Option aj} {W:List Int} {ro:Bool} (S:St h n d C) (hb:h.get b=qC (W.map (.int .u64)) ro) (h1:0<W.length) (h2:W.length≤65536):
  b9 Tryz.prog OP 31 [.slice (some ⟨b,0,none⟩) W.length cap] h n fun v h' n'=>∃ d' C',v=dY [pt (d' rM),I6 0]∧St h' n' d' C'∧dP d' C' W [] 0∧∀ a b,2<a→d' (a,b)=d (a,b)∧C' (a,b)=C (a,b):=by
 obtain⟨kk,v,h',n',e,rfl,rfl,q1,q2,q3,q4⟩:=IU (O:=OP) rfl rfl b cap W ro h n S.wf hb h1 h2
 refine⟨kk,_,h',_,e,_,_,rR,((S.kept q3 q4).give rW q2 fun s D c=>?_).give rM q1 fun s D c=>?_,⟨rT,rR,.inl ⟨rfl,rfl⟩,rfl⟩,fun a b c=>⟨rR,rR⟩⟩
 ·have:=S.lt c;omega
 ·by_cases c2:s=rW
  ·subst c2;rw[ah];omega
  ·rw[ay c2] at c ⊢
   have:=S.lt c;omega
theorem dP.of {d d':Rl→Nat} {C C':Rl→Option aj} {W:List Int} {L:List Value} {k:Nat} (M:dP d C W L k) (hd:∀ a,a<3→d' (a,0)=d (a,0)∧C' (a,0)=C (a,0)):dP d' C' W L k:=by
 obtain⟨m1,m2,m3,m4⟩:=M
 refine⟨?_,?_,?_,m4⟩
 ·rw[(hd 0 (by omega)).2,(hd 1 (by omega)).1,(hd 2 (by omega)).1];exact m1
 ·rw[(hd 1 (by omega)).2];exact m2
 ·rw[(hd 2 (by omega)).2];exact m3
def FS.new:FS:=⟨fun _=>0,fun _=>false,fun _=>none⟩
theorem FE {ns:Nat} {d:Rl→Nat} {C:Rl→Option aj} (M:dP d C (nl ns fun _=>0) [] 0) (E:wR d C 0 ns (nl ns fun _=>0) (bl ns fun _=>false)):kI ns FS.new [] d C:=
 ⟨⟨0,M⟩,E,fun _ _=>Nat.le_refl _,fun _ _ h=>by simp[FS.new] at h,fun _ _ h=>by simp[FS.new] at h,fun _ _ _ h=>by simp[FS.new] at h⟩
structure Start (e:gT) (ns:Nat) (rep:e.σ→List Value→(Rl→Nat)→(Rl→Option aj)→Prop) (kd nb nw:Nat) (s0:e.σ):Prop where
 wpos:0<nw∧nw≤65536
 ML:∀ {h:PT aj} {n:Nat} {d:Rl→Nat} {C:Rl→Option aj},St h n d C→b9 Tryz.prog OP 30 [U8 kd,I6 ns,I6 nb] h n fun r h' n'=>r=dY [I6 nw,I6 0]∧St h' n' d C
 Zi:∀ {h:PT aj} {n:Nat} {d:Rl→Nat} {C:Rl→Option aj},St h n d C→dP d C (nl nw fun _=>0) [] 0→C (20,0)=none→b9 Tryz.prog OP 32 [pt (d rM),U8 kd,I6 0,I6 ns,I6 nb] h n fun r h' n'=>∃ d' C',r=dY [pt (d' (4,0)),I6 0]∧St h' n' d' C'∧rep s0 [] d' C'∧d' rM=d rM∧∀ a b,30≤a→d' (a,b)=d (a,b)∧C' (a,b)=C (a,b)
 idle:∀ t,e.br s0 t=false∧e.wt s0 t=false∧e.bB s0 t=false
set_option maxRecDepth 100000 in
set_option maxHeartbeats 4000000 in
theorem MN {ns:Nat} (cq:0<ns∧ns≤64):Start (jV ns) ns (kI ns) 1 0 ns FS.new:=by
 refine⟨by omega,fun {h n d C} S=>?_,fun {h n d C} S M sc=>?_,fun t=>⟨rfl,rfl,rfl⟩⟩
 ·obtain⟨hn1,hn2⟩:=cq
  have hc0: ¬ (ns:Int)<1:=by omega
  have OQ: ¬ (64:Int)<ns:=by omega
  refine aC (N:=41) Tryz.func30 rfl rfl fun z hP hO hro hN hQ=>?_
  repeat' first |simp(disch:=first |omega |assumption) only[go_sem, *] | (apply xs<;>intro _)<;>try omega |refine fun (_ _:List Nat)=>?_ | (first |refine aT Tryz.func61 rfl ?_ ?_ ?_ ?_ |fail)<;>intros
 ·obtain⟨kk,v,h',n',q,d',C',rfl,S',E,k'⟩:=RO S M cq aV
  refine⟨kk,_,h',n',q,d',C',rfl,S',FE (M.of fun a ha=>k' a 0 (by omega) (by omega) (by omega) (by omega)) E,(k' 0 0 (by omega) (by omega) (by omega) (by omega)).1,fun a b c=>k' a b (by omega) (by omega) (by omega) (by omega)⟩
set_option maxRecDepth 100000 in
set_option maxHeartbeats 4000000 in
theorem MO {ns:Nat} (cq:0<ns∧ns≤64):Start (iy ns) ns (kJ ns) 2 0 (2*ns) ES.new:=by
 refine⟨by omega,fun {h n d C} S=>?_,fun {h n d C} S M sc=>?_,fun t=>⟨rfl,rfl,rfl⟩⟩
 ·obtain⟨hn1,hn2⟩:=cq
  have hc0: ¬ (ns:Int)<1:=by omega
  have OQ: ¬ (64:Int)<ns:=by omega
  have FZ:((2*ns:Nat):Int)=2*(ns:Int):=by omega
  rw[FZ]
  clear FZ
  refine aC (N:=41) Tryz.func30 rfl rfl fun z hP hO hro hN hQ=>?_
  repeat' first |simp(disch:=first |omega |assumption) only[go_sem, *] | (apply xs<;>intro _)<;>try omega |refine fun (_ _:List Nat)=>?_ | (first |refine aT Tryz.func62 rfl ?_ ?_ ?_ ?_ |fail)<;>intros
 ·obtain⟨kk,v,h',n',q,d',C',rfl,S',E,k'⟩:=RP S M cq aV
  refine⟨kk,_,h',n',q,d',C',rfl,S',Fc (M.of fun a ha=>k' a 0 (by omega) (by omega) (by omega) (by omega)) E,(k' 0 0 (by omega) (by omega) (by omega) (by omega)).1,fun a b c=>k' a b (by omega) (by omega) (by omega) (by omega)⟩
set_option maxRecDepth 100000 in
set_option maxHeartbeats 4000000 in
theorem MP {ns nb:Nat} (cq:0<ns∧ns≤64) (hnb:0<nb∧nb≤16):Start (g_ ns nb) ns (gP ns nb) 3 nb (4*nb) GS.new:=by
 refine⟨by omega,fun {h n d C} S=>?_,fun {h n d C} S M sc=>?_,fun t=>⟨rfl,rfl,rfl⟩⟩
 ·obtain⟨hn1,hn2⟩:=cq
  obtain⟨hn3,hn4⟩:=hnb
  have hc0: ¬ (ns:Int)<1:=by omega
  have OQ: ¬ (64:Int)<ns:=by omega
  have FZ:((4*nb:Nat):Int)=4*(nb:Int):=by omega
  have Y_: ¬ (nb:Int)<1:=by omega
  have Za: ¬ (16:Int)<nb:=by omega
  rw[FZ]
  clear FZ
  refine aC (N:=41) Tryz.func30 rfl rfl fun z hP hO hro hN hQ=>?_
  repeat' first |simp(disch:=first |omega |assumption) only[go_sem, *] | (apply xs<;>intro _)<;>try omega |refine fun (_ _:List Nat)=>?_ | (first |refine aT Tryz.func63 rfl ?_ ?_ ?_ ?_ |fail)<;>intros
 ·obtain⟨kk,v,h',n',q,d',C',rfl,S',E,k'⟩:=RQ S M cq hnb aV
  refine⟨kk,_,h',n',q,d',C',rfl,S',Fl hnb (M.of fun a ha=>k' a 0 (by omega) (by omega) (by omega) (by omega)) E ((k' 20 0 (by omega) (by omega) (by omega) (by omega)).2.trans sc),(k' 0 0 (by omega) (by omega) (by omega) (by omega)).1,fun a b c=>k' a b (by omega) (by omega) (by omega) (by omega)⟩
end Go.Proofs.YtbceiadaihphaaaGreat
