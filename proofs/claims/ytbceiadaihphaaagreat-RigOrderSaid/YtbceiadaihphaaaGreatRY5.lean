/-
  A part of the proof: contracts of inner functions.
-/
import Derived.Test.YtbceiadaihphaaaGreatRY2
set_option linter.unusedVariables false
set_option linter.unusedSimpArgs false
namespace Go.Proofs.YtbceiadaihphaaaGreat
open Go.Am
structure Kt (e:gT) (x:eG e) (ns:Nat) (rep:e.σ→List Value→(Rl→Nat)→(Rl→Option aj)→Prop) (aO guard fresh:e.σ→Nat→Nat→Prop) (kd nb nw:Nat) (s0:e.σ) (xp:Nat):Prop where
 cq:0<ns∧ns≤64
 F:gp e x ns rep
 N:qu e ns rep x.hJ x.h_
 G:e.fq ns aO guard
 Fe:e.gC ns aO guard fresh
 kind:∀ {s k d C},rep s k d C→∃ x z,C (4,0)=row [x,U8 kd,z]
 B:Start e ns rep kd nb nw s0
 px:x.CU=(xp:Int)
 xp:xp=if kd=3 then 16 else 13
theorem Zm {ns:Nat} (cq:0<ns∧ns≤64):Kt (jV ns) (xF ns) ns (kI ns) (fun _ _ _=>True) zk E7 1 0 ns FS.new 13:=
 ⟨cq,RK cq,Mq,E2 ns,Y2 ns,fun R=>⟨_,_,R.xM.uT⟩,MN cq,rfl,rfl⟩
theorem Zn {ns:Nat} (cq:0<ns∧ns≤64):Kt (iy ns) (xE ns) ns (kJ ns) Mi zm E8 2 0 (2*ns) ES.new 13:=
 ⟨cq,RL cq,Mr,E3 ns,Y3 ns,fun R=>⟨_,_,R.xM.uT⟩,MO cq,rfl,rfl⟩
theorem Zo {ns nb:Nat} (cq:0<ns∧ns≤64) (hnb:0<nb∧nb≤16):Kt (g_ ns nb) (xG ns nb) ns (gP ns nb) (sE nb) nW (E9 nb) 3 nb (4*nb) GS.new 16:=
 ⟨cq,RN nb cq,Mt,E6 hnb.1,Y4 hnb.1,fun R=>by obtain⟨X,ck,E,_⟩:=R.xM;exact⟨_,_,E.uT⟩,MP cq hnb,rfl,rfl⟩
end Go.Proofs.YtbceiadaihphaaaGreat
namespace Go.Proofs.YtbceiadaihphaaaGreat
open Go.Am
variable {e:gT} {ops:Ops} {xp ns:Nat} {aO guard fresh:e.σ→Nat→Nat→Prop}
theorem gQ.up {r:RS e} (I:gQ ops xp aO fresh ns r):gQ ops xp aO fresh ns r.up:=⟨I.one,fun k hk=>(I.at_ k hk).of rfl rfl rfl rfl rfl rfl,I.val,I.fr,I.fits⟩
theorem MT {r:RS e} {k:Nat}:(RS.ct ops xp r k).ev=r.ev:=by
 unfold RS.ct;split
 ·rfl
 ·split
  ·rfl
  ·split
   ·rfl
   ·split<;>rfl
theorem MU {r:RS e} {t:Nat}:(r.mid ops t).ev.length≤r.ev.length+2:=by
 unfold RS.mid;split
 ·show (if _ then _ else _:List _).length≤_
  split
  ·omega
  ·simp
 ·split
  ·show ((if _ then _ else _:List _)++(if _ then _ else _)).length≤_
   rw[List.length_append]
   have h1:∀ (p:Prop) [Decidable p] (a:Nat×Nat×Nat×Nat),(if p then r.ev else r.ev++[a]).length≤r.ev.length+1:=fun p _ a=>by split<;>simp
   have h2:∀ (p:Prop) [Decidable p] (a:Nat×Nat×Nat×Nat),(if p then ([]:List (Nat×Nat×Nat×Nat)) else [a]).length≤1:=fun p _ a=>by split<;>simp
   have:=h1 (r.bg t=true) (r.n,t,3,r.setOf ops t)
   have:=h2 (e.wt (e.aQ r.s t) t=true) (r.n,t,4,r.setOf ops t)
   omega
  ·split
   ·omega
   ·show (r.ev++[_]).length≤_
    simp
theorem FH {r:RS e} {t:Nat}:(RS.pick ops xp r t).ev.length≤r.ev.length+2∧(RS.pick ops xp r t).n=r.n+1:=by
 unfold RS.pick
 split
 ·rename_i h
  rw[l6 h]
  have:=MU (ops:=ops) (r:=r) (t:=t)
  split
  ·refine⟨?_,?_⟩
   ·show (RS.ct ops xp _ t).ev.length≤_;rw[MT];exact this
   ·show (RS.ct ops xp _ t).n+1=_;rw[Kq];show (r.mid ops t).n+1=_;rw[Ay]
  ·refine⟨this,?_⟩
   show (r.mid ops t).n+1=_;rw[Ay]
 ·exact⟨by show r.ev.length≤_;omega,rfl⟩
theorem gQ.pick (G:e.fq ns aO guard) (Fr:e.gC ns aO guard fresh) {r:RS e} {t:Nat} (I:gQ ops xp aO fresh ns r) (ht:t<ns) (hx:xp≠0∧xp≠1):gQ ops xp aO fresh ns (RS.pick ops xp r t):=by
 unfold RS.pick
 split
 ·rename_i h;exact(I.step G Fr ht hx h).up
 ·exact I.up
theorem SB.up {r:RS e} (b:SB ops xp aO guard fresh r):SB ops xp aO guard fresh r.up:=⟨b.inv.up,b.idx,b.wt,b.gd,b.bB⟩
theorem SA.up {me:e.σ→Nat→Nat} {v set m:Nat} {r:RS e} (a:SA ops xp aO fresh me v set r m):SA ops xp aO fresh me v set r.up m:=⟨a.inv.up,a.idx,a.wt,a.fr,a.br,a.val,a.RT⟩
theorem SB.pick (G:e.fq 3 aO guard) (Fr:e.gC 3 aO guard fresh) {r:RS e} (b:SB ops xp aO guard fresh r) {k:Nat} (hk:k<3) (h0:k≠0) (hx:xp≠0∧xp≠1):SB ops xp aO guard fresh (RS.pick ops xp r k):=by
 unfold RS.pick
 split
 ·rename_i h;exact(b.step G Fr hk h0 hx h).up
 ·exact b.up
theorem SA.pick (G:e.fq 3 aO guard) (Fr:e.gC 3 aO guard fresh) {me:e.σ→Nat→Nat} (hme:∀ s t,e.br s t=true→0<me s t∧(e.br (e.aP s t) t=true→me (e.aP s t) t<me s t)) {r:RS e} {v set m:Nat} (a:SA ops xp aO fresh me v set r m) (hv:v<64) (hs:set<2^64) (hb:set.testBit v=true) (hx:xp≠0∧xp≠1):
  0<m∧(SA ops xp aO fresh me v set (RS.pick ops xp r 0) (m-1)∨((RS.pick ops xp r 0).idx 0=1∧SB ops xp aO guard fresh (RS.pick ops xp r 0))):=by
 obtain⟨h1,h2,h3⟩:=a.step G Fr hme hv hs hb hx
 refine⟨h1,?_⟩
 unfold RS.pick
 rw[if_pos h2]
 rcases h3 with h3 |h3
 ·exact .inl h3.up
 ·exact .inr ⟨h3.1,h3.2.up⟩
end Go.Proofs.YtbceiadaihphaaaGreat
namespace Go.Proofs.YtbceiadaihphaaaGreat
open Go.Am
variable {e:gT} {ex:eG e} {rep:e.σ→List Value→(Rl→Nat)→(Rl→Option aj)→Prop} {aO guard fresh:e.σ→Nat→Nat→Prop} {kd nb nw xp:Nat} {s0:e.σ}
abbrev Gq:List Ck:=[.int .i64]
def jw (d:Rl→Nat) (C:Rl→Option aj) (s:Value) (A:List (List Int)):Prop:=fC Gq A∧((s = .slice none 0 0∧A=[])∨∃ cap,s = .slice (some ⟨d (62,0),0,none⟩) A.length cap∧C (62,0)=qC (cH Gq A) true)
theorem jw.of {d d':Rl→Nat} {C C':Rl→Option aj} {s:Value} {A:List (List Int)} (p:jw d C s A) (hd:d' (62,0)=d (62,0)) (hC:C' (62,0)=C (62,0)):jw d' C' s A:=by
 obtain⟨p0,p | ⟨cap,p1,p2⟩⟩:=p
 ·exact⟨p0,.inl p⟩
 ·exact⟨p0,.inr ⟨cap,by rw[hd];exact p1,by rw[hC];exact p2⟩⟩
structure Rg (rep:e.σ→List Value→(Rl→Nat)→(Rl→Option aj)→Prop) (ops:Ops) (ns:Nat) (d0:Rl→Nat) (C0:Rl→Option aj) (p i:Nat) (r:RS e) (k:List Value) (d:Rl→Nat) (C:Rl→Option aj) (h:PT aj) (n:Nat):Prop where
 S:St h n d C
 at_:d (40,0)=p
 R:bP rep ops ns (aM ops d r) r k d C
 k:k.length≤6*i
 ev:r.ev.length≤2*i
 n:r.n=i
 ep:∀ a b,60≤a→d (a,b)=d0 (a,b)∧C (a,b)=C0 (a,b)
theorem Rg.pick {ns:Nat} (K:Kt e ex ns rep aO guard fresh kd nb nw s0 xp) {ops:Ops} (ok:kW ops ns) {d0:Rl→Nat} {C0:Rl→Option aj} {p i t n:Nat} {k:List Value} {x:Int} {r:RS e} {d:Rl→Nat} {C:Rl→Option aj} {h:PT aj} (g:Rg rep ops ns d0 C0 p i r k d C h n) (I:gQ ops xp aO fresh ns r) (ht:t<ns) (hx:(x.tmod ns+ns).tmod ns=t) (hi:i≤30000) (c8:C0 (98,0)=none) (c9:C0 (99,0)=none):
  b9 Tryz.prog OP 13 [pt p,I6 x] h n fun v h' n'=>v=dY [.agg ⟨[I6 t,U8 (RS.nx ex.hJ ex.h_ r t),.bool (decide (1<RS.nx ex.hJ ex.h_ r t)),.bool (RS.dd r t),.bool (RS.dd r t)]⟩,I6 0]∧∃ d' C',Rg rep ops ns d0 C0 p (i+1) (RS.pick ops xp r t) (k++RS.ac ex r t) d' C' h' n':=by
 obtain⟨S,Cr,R,hk,cR,hn,ep⟩:=g
 have en:=MI K.cq K.F K.N K.G.fits K.kind K.xp K.px ok S R ht hx I.one (I.at_ t ht) (fun k h=>(I.val k h).1) (by omega) (by omega) (by omega) ((ep 98 0 (by omega)).2.trans c8) ((ep 99 0 (by omega)).2.trans c9)
 rw[Cr] at en
 obtain⟨kk,v,h',n',q,hv,d',C',S',R',X⟩:=en
 have hal:=FC (r:=r) (t:=t) K.F.Fa
 obtain⟨l1,l2⟩:=FH (ops:=ops) (xp:=xp) (r:=r) (t:=t)
 exact⟨kk,v,h',n',q,hv,d',C',S',X.m.trans Cr,R',by rw[List.length_append];omega,by omega,by omega,fun a b c=>⟨(X.x a b c).1.trans (ep a b c).1,(X.x a b c).2.trans (ep a b c).2⟩⟩
theorem Rg.re {ns:Nat} {ops:Ops} {d0:Rl→Nat} {C0:Rl→Option aj} {p i n n2:Nat} {k:List Value} {r:RS e} {d:Rl→Nat} {C:Rl→Option aj} {h h2:PT aj} (g:Rg rep ops ns d0 C0 p i r k d C h n) (S:St h2 n2 d C):Rg rep ops ns d0 C0 p i r k d C h2 n2:=⟨S,g.at_,g.R,g.k,g.ev,g.n,g.ep⟩
theorem Sg {ns:Nat} (K:Kt e ex ns rep aO guard fresh kd nb nw s0 xp):xp≠0∧xp≠1:=by
 rw[K.xp];split<;>decide
end Go.Proofs.YtbceiadaihphaaaGreat
