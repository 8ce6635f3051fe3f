/-
  A part of the proof: contracts of inner functions.
-/
import Derived.Test.YtbceiadaihphaaaGreatPG
import Derived.Test.YtbceiadaihphaaaGreatAmV3
import Derived.Test.YtbceiadaihphaaaGreatPR2
set_option linter.unusedVariables false
set_option linter.unusedSimpArgs false
namespace Go.Proofs.YtbceiadaihphaaaGreat
open Go.Am
theorem L8:Tryz.prog.underlying 190=some (.map 3 292):=by kernel_rfl
theorem L9:Tryz.prog.underlying 3=some (.int .i64):=by kernel_rfl
theorem Rw:zeroOf Tryz.prog 292=some (.pointer none):=by kernel_rfl
@[go_sem] theorem lkS {r:Nat} {x:Int} {ok:Bool}:Oz Tryz.prog 190 (.map (some r)) (.int .i64 x) ok = .get r (LK Tryz.prog (.int .i64) 292 (.int .i64 x) ok):=lkI L8 L9
@[go_sem] theorem muS {r:Nat} {x:Int} {v:Value}:LJ Tryz.prog 190 (.map (some r)) (.int .i64 x) v = .get r (Gl Tryz.prog r (.int .i64) (.int .i64 x) v):=muI L8 L9
@[go_sem] theorem dlS {ts:List TypeId} {r:Nat} {x:Int}:uN Tryz.prog .delete (190::ts) [.map (some r),.int .i64 x] = .get r (Rf Tryz.prog r (.int .i64) (.int .i64 x)):=dlI L8 L9
attribute [go_sem] H9 qN H_
@[go_sem] theorem Rx:EO Tryz.prog 292 true (some none) = .pure (.value (.tuple ⟨[.pointer none,.bool false]⟩)):=by simp only[EO,Rw,cond_true]
@[go_sem] theorem Ry {i:Nat} {v:Value}:EO Tryz.prog 292 true (some (some (i,v))) = .pure (.value (.tuple ⟨[v,.bool true]⟩)):=rfl
@[go_sem] theorem Rz {r:Nat} {k v:Value} {es:List (Value×Value×Nat)} {c:Nat}:HX r true k v es c (some none) = .set r (.map (es++[(k,v,c)]) (c+1)) (.pure .skip):=rfl
@[go_sem] theorem RB {r i:Nat} {l:List jy} {k:IntKind} {c:Nat} {v:Value}:Xu r l k c (some (i,v)) = .set r (.map (gZ k (l.eraseIdx i)) c) (.pure (.value (.tuple ⟨[]⟩))):=rfl
structure BV (d:Rl→Nat) (C:Rl→Option aj) (base:Int) (nb n:Nat) (X:List jy) (ck:Nat):Prop where
 uT:C (4,0)=row [.iface 160 (.agg ⟨[.iface 154 (pt (d (5,0)))]⟩),U8 3,I6 n]
 xM:C (5,0)=row [pt (d rM),I6 base,I6 nb,.map (some (d (6,0)))]
 secs:C (6,0)=some (.map (gZ .i64 X) ck)
set_option maxRecDepth 100000 in
set_option maxHeartbeats 8000000 in
theorem Ip {h:PT aj} {n nb nn:Nat} {d:Rl→Nat} {C:Rl→Option aj} {base th v:Int} {X:List jy} {ck s t:Nat} (S:St h nn d C) (E:BV d C base nb n X ck) (ht:0≤th∧th<64) (hn:n≤64) (hs:s<n) (hv:0≤v∧v<64) (hnb:0<nb∧nb≤16) (hb:0≤base∧base<100000) (hX:∀ e∈X,e.1≠(s:Int)):
  b9 Tryz.prog OP 69 [pt (d (4,0)),I6 th,I6 s,I6 v] h nn fun r h' n'=>∃ p q g,nn≤g∧g<q∧q<p∧p<n'∧r=dY [pt p,I6 0]∧St h' n' (upd (upd (upd d (15,s) g) (9,t) q) (8,t) p) (upd (upd (upd (upd C (15,s) (row [I6 (-1),.bool false])) (6,0) (some (.map (gZ .i64 (X++[((s:Int),pt g,ck)])) (ck+1)))) (9,t) (row ([pt (d rM),I6 th]++oY base (v.tmod nb)++[pt g]))) (8,t) (row [.iface 291 (pt q)])):=by
 obtain⟨e1,e2,e3⟩:=E
 have g1:=S.at e1
 have g2:=S.at e2
 have g3:=S.at e3
 have n1:=S.lt e1
 have n2:=S.lt e2
 have n3:=S.lt e3
 have d1:=S.df e2 e3 (by simp)
 obtain⟨t1,t2⟩:=ht
 obtain⟨v1,v2⟩:=hv
 obtain⟨b1,b2⟩:=hnb
 obtain⟨b3,b4⟩:=hb
 have s1:(s:Int)<n:=by omega
 have hf:eV (s:Int) X 0=none:=su hX
 have hm1:=Int.tmod_nonneg (nb:Int) v1
 have hm2:=Int.tmod_lt_of_pos v (show (0:Int)<nb by omega)
 generalize Nu:v.tmod nb=bk at*
 have nb0: ¬ (nb:Int)=0:=by omega
 have c9:bk<100:=by omega
 clear e1 e2 hX
 refine aC (N:=37) Tryz.func69 rfl rfl fun z hP hO hro hN hQ=>?_
 repeat' first |simp(disch:=first |omega |assumption) only[go_sem, *,mS,oY] | (apply xs<;>intro _)<;>try omega | ((with_reducible refine bR 12 ?_);refine dz 67 12 w163_12 ?_) |refine fun (_ _:List Nat)=>?_ | (first |refine aT Tryz.func77 rfl ?_ ?_ ?_ ?_ |refine aT Tryz.func194 rfl ?_ ?_ ?_ ?_ |refine aT Tryz.func163 rfl ?_ ?_ ?_ ?_ |refine aT Tryz.func167 rfl ?_ ?_ ?_ ?_ |refine aT Tryz.func171 rfl ?_ ?_ ?_ ?_ |refine aT Tryz.func168 rfl ?_ ?_ ?_ ?_ |refine aT Tryz.func85 rfl ?_ ?_ ?_ ?_ |refine aT Tryz.func196 rfl ?_ ?_ ?_ ?_ |fail)<;>intros
 exact⟨nn+3,nn+2,nn+1,by omega,by omega,by omega,by omega,rfl,(((((S.junk bG bH).new (15,s) _ bG bH).set (6,0) _ ((au (by decide)).trans e3) (au (by decide))).new (9,t) _ bG bH).new (8,t) _ bG bH).eq (by first | (rw[tY];done) | (rw[tY];rfl)) rfl⟩
end Go.Proofs.YtbceiadaihphaaaGreat
namespace Go.Proofs.YtbceiadaihphaaaGreat
open Go.Am
theorem An {x:Int} (h1:0≤x) (h2:x<18446744073709551616):IntKind.u64.wrap x=x:=by
 simp only[IntKind.wrap,IntKind.bits,IntKind.signed,Bool.false_and,Bool.false_eq_true,if_false]
 omega
set_option maxRecDepth 100000 in
set_option maxHeartbeats 8000000 in
theorem L_ {h:PT aj} {n nb nn:Nat} {d:Rl→Nat} {C:Rl→Option aj} {base th bk:Int} {W:List Int} {L:List Value} {k s t ba:Nat} {w:Int} (S:St h nn d C) (M:dP d C W L k) (hk:k≤100000) (ht:0≤th∧th<64) (Nu:0≤bk∧bk<16) (hba:base+4*bk+0=ba) (hb0:0≤base) (hb:ba<W.length) (hw:W.length≤100000) (hW:W[ba]=w) (xT:0≤w∧w<2)
  (e8:C (8,t)=row [.iface 291 (pt (d (9,t)))]) (e9:C (9,t)=row ([pt (d rM),I6 th]++oY base bk++[pt (d (15,s))])) (wT:C (15,s)=row [I6 (-1),.bool false]):
  b9 Tryz.prog OP 57 [pt (d (8,t))] h nn fun r h' n'=>∃ g,nn≤g∧g<n'∧r=dY [U8 15,.bool false]∧St h' n' (upd d rL g) (upd (bM C (d rW) g W (L++bI th ba 1 w w false) (k+1)) (15,s) (row [I6 (base+4*bk+1+w),.bool false])):=by
 have g8:=S.at e8
 have g9:=S.at e9
 have Ma:=S.at wT
 have n8:=S.lt e8
 have n9:=S.lt e9
 have n15:=S.lt wT
 obtain⟨t1,t2⟩:=ht
 obtain⟨b1,b2⟩:=Nu
 obtain⟨w1,w2⟩:=xT
 have eA:∀ g,bM C (d rW) g W (L++bI th ba 1 w w false) (k+1) (15,s)=C (15,s):=fun g=>aG (by decide)
 have eD:∀ g,upd d rL g (15,s)=d (15,s):=fun g=>au (by decide)
 simp only[oY,List.cons_append,List.nil_append] at g9
 refine aC (N:=13) Tryz.func57 rfl rfl fun z hP hO hro hN hQ=>?_
 repeat' first |simp(disch:=first |omega |assumption) only[go_sem, *] | (apply xs<;>intro _)<;>try omega | ((with_reducible refine bR 4 ?_);refine dz 69 4 w216_4 ?_) |refine fun (_ _:List Nat)=>?_ | (first |refine aT Tryz.func216 rfl ?_ ?_ ?_ ?_ |refine aT Tryz.func215 rfl ?_ ?_ ?_ ?_ |fail)<;>intros
 refine eJ (lX qO S M hk ⟨t1,t2⟩ hb) (by simp only[*]) (by simp only[*]) (by simp only[go_sem, *]) (by simp only[go_sem, *]) ?_
 rintro r h2 sC ⟨g,m_,gx,rfl,S2⟩
 rw[hW] at S2 ⊢
 have f9:=S2.iZ (a:=9) (b:=t) (by decide) e9
 have f15:=S2.iZ (a:=15) (b:=s) (by decide) wT
 simp only[oY,List.cons_append,List.nil_append] at f9
 clear g8 g9 Ma
 by_cases c1:w=0
 ·subst c1
  have c2:(0:Int).tmod 2=0:=rfl
  repeat' first |simp(disch:=first |omega |assumption) only[go_sem, *] | (apply xs<;>intro _)<;>try omega | ((with_reducible refine bR 5 ?_);refine dz 69 5 w216_5 ?_) |refine fun (_ _:List Nat)=>?_
  exact⟨g,by omega,gx,(S2.set (15,s) _ ((eA g).trans wT) (eD g)).eq (by first | (rw[Int.add_zero];done) | (rw[Int.add_zero];rfl)) rfl⟩
 ·have c2:w=1:=by omega
  subst c2
  have c3:(1:Int).tmod 2=1:=rfl
  repeat' first |simp(disch:=first |omega |assumption) only[go_sem, *] | (apply xs<;>intro _)<;>try omega | ((with_reducible refine bR 5 ?_);refine dz 69 5 w216_5 ?_) |refine fun (_ _:List Nat)=>?_
  exact⟨g,by omega,gx,(S2.set (15,s) _ ((eA g).trans wT) (eD g)).eq (by first | (rw[Int.add_assoc _ 1 1];done) | (rw[Int.add_assoc _ 1 1];rfl)) rfl⟩
set_option maxRecDepth 100000 in
set_option maxHeartbeats 8000000 in
theorem Iq {h:PT aj} {n nb nn:Nat} {d:Rl→Nat} {C:Rl→Option aj} {base th bk:Int} {W:List Int} {L:List Value} {k s t ba:Nat} {w:Int} (S:St h nn d C) (M:dP d C W L k) (hk:k≤100000) (ht:0≤th∧th<64) (hb:ba<W.length) (hw:W.length≤100000) (hW:W[ba]=w) (xT:0≤w∧w<18446744073709551615)
  (e8:C (8,t)=row [.iface 291 (pt (d (9,t)))]) (e9:C (9,t)=row ([pt (d rM),I6 th]++oY base bk++[pt (d (15,s))])) (wT:C (15,s)=row [I6 ba,.bool false]):
  b9 Tryz.prog OP 57 [pt (d (8,t))] h nn fun r h' n'=>∃ g,nn≤g∧g<n'∧r=dY [U8 16,.bool true]∧St h' n' (upd d rL g) (upd (bM C (d rW) g (W.set ba (w+1)) (L++bI th ba 3 w (w+1) false) (k+1)) (15,s) (row [I6 ba,.bool true])):=by
 have g8:=S.at e8
 have g9:=S.at e9
 have Ma:=S.at wT
 have n8:=S.lt e8
 have n9:=S.lt e9
 have n15:=S.lt wT
 obtain⟨t1,t2⟩:=ht
 obtain⟨w1,w2⟩:=xT
 have eA:∀ g W' L',bM C (d rW) g W' L' (k+1) (15,s)=C (15,s):=fun g W' L'=>aG (by decide)
 have eD:∀ g,upd d rL g (15,s)=d (15,s):=fun g=>au (by decide)
 have eW:IntKind.u64.wrap (w+1)=w+1:=An (by omega) (by omega)
 have YS:IntKind.u64.wrap (w+1-1)=w:=by rw[show w+1-1=w by omega];exact An (by omega) (by omega)
 simp only[oY,List.cons_append,List.nil_append] at g9
 refine aC (N:=13) Tryz.func57 rfl rfl fun z hP hO hro hN hQ=>?_
 repeat' first |simp(disch:=first |omega |assumption) only[go_sem, *] | (apply xs<;>intro _)<;>try omega | ((with_reducible refine bR 7 ?_);refine dz 69 7 w216_7 ?_) |refine fun (_ _:List Nat)=>?_ | (first |refine aT Tryz.func216 rfl ?_ ?_ ?_ ?_ |refine aT Tryz.func215 rfl ?_ ?_ ?_ ?_ |fail)<;>intros
 refine eJ (Rm (x:=1) qO S M hk ⟨t1,t2⟩ hb) (by simp only[*]) (by simp only[*]) (by simp only[go_sem, *]) (by simp only[go_sem, *]) ?_
 rintro r h2 sC ⟨g,m_,gx,rfl,S2⟩
 rw[hW,eW,YS] at S2
 rw[hW,eW]
 have f9:=S2.iZ (a:=9) (b:=t) (by decide) e9
 have f15:=S2.iZ (a:=15) (b:=s) (by decide) wT
 simp only[oY,List.cons_append,List.nil_append] at f9
 clear g8 g9 Ma
 repeat' first |simp(disch:=first |omega |assumption) only[go_sem, *] | (apply xs<;>intro _)<;>try omega |refine fun (_ _:List Nat)=>?_
 exact⟨g,by omega,gx,S2.set (15,s) _ ((eA g _ _).trans wT) (eD g)⟩
end Go.Proofs.YtbceiadaihphaaaGreat
namespace Go.Proofs.YtbceiadaihphaaaGreat
open Go.Am
set_option maxRecDepth 100000 in
set_option maxHeartbeats 8000000 in
theorem Mb {h:PT aj} {n nb nn:Nat} {d:Rl→Nat} {C:Rl→Option aj} {base th:Int} {X:List jy} {ck cj j:Nat} {W:List Int} {L:List Value} {k s ba:Nat} {w:Int} (S:St h nn d C) (E:BV d C base nb n X ck) (M:dP d C W L k) (hk:k≤100000) (ht:0≤th∧th<64) (hn:n≤64) (hs:s<n) (hj:X[j]? = some ((s:Int),pt (d (15,s)),cj)) (hjn:∀ m e,m<j→X[m]? = some e→e.1≠(s:Int)) (hb:ba<W.length) (hw:W.length≤100000) (hW:W[ba]=w) (xT:1≤w∧w<18446744073709551615) (wT:C (15,s)=row [I6 ba,.bool true]):
  b9 Tryz.prog OP 60 [pt (d (4,0)),I6 th,I6 s] h nn fun r h' n'=>∃ g,nn≤g∧g<n'∧r=dY [U8 16,I6 0]∧St h' n' (upd d rL g) (upd (bM C (d rW) g (W.set ba (w-1)) (L++bI th ba 3 w (w-1) false) (k+1)) (6,0) (some (.map (gZ .i64 (X.eraseIdx j)) ck))):=by
 obtain⟨e1,e2,e3⟩:=E
 have g1:=S.at e1
 have g2:=S.at e2
 have g3:=S.at e3
 have Ma:=S.at wT
 have n1:=S.lt e1
 have n2:=S.lt e2
 have n3:=S.lt e3
 have n15:=S.lt wT
 obtain⟨t1,t2⟩:=ht
 obtain⟨w1,w2⟩:=xT
 have s1:(s:Int)<n:=by omega
 have hf:eV (s:Int) X 0=some (j,pt (d (15,s))):=by rw[sv hj hjn,Nat.zero_add]
 have eA:∀ g W' L',bM C (d rW) g W' L' (k+1) (6,0)=C (6,0):=fun g W' L'=>aG (by decide)
 have eD:∀ g,upd d rL g (6,0)=d (6,0):=fun g=>au (by decide)
 have eW:IntKind.u64.wrap (w+18446744073709551615)=w-1:=by
  simp only[IntKind.wrap,IntKind.bits,IntKind.signed,Bool.false_and,Bool.false_eq_true,if_false];omega
 have YS:IntKind.u64.wrap (w-1-18446744073709551615)=w:=by
  simp only[IntKind.wrap,IntKind.bits,IntKind.signed,Bool.false_and,Bool.false_eq_true,if_false];omega
 clear e1 hj hjn
 refine aC (N:=25) Tryz.func60 rfl rfl fun z hP hO hro hN hQ=>?_
 repeat' first |simp(disch:=first |omega |assumption) only[go_sem, *] | (apply xs<;>intro _)<;>try omega | ((with_reducible refine bR 7 ?_);refine dz 51 7 w164_7 ?_) |refine fun (_ _:List Nat)=>?_ | (first |refine aT Tryz.func77 rfl ?_ ?_ ?_ ?_ |refine aT Tryz.func164 rfl ?_ ?_ ?_ ?_ |refine aT Tryz.func167 rfl ?_ ?_ ?_ ?_ |refine aT Tryz.func171 rfl ?_ ?_ ?_ ?_ |fail)<;>intros
 refine eJ (Rm (x:=18446744073709551615) qO S M hk ⟨t1,t2⟩ hb) (by simp only[*]) (by simp only[*]) (by simp only[go_sem, *]) (by simp only[go_sem, *]) ?_
 rintro r h2 sC ⟨g,m_,gx,rfl,S2⟩
 rw[hW,eW,YS] at S2
 rw[hW,eW]
 have f2:=S2.iZ (a:=5) (b:=0) (by decide) e2
 have f6:=S2.iZ (a:=6) (b:=0) (by decide) e3
 clear g1 g2 g3 Ma
 repeat' first |simp(disch:=first |omega |assumption) only[go_sem, *] | (apply xs<;>intro _)<;>try omega |refine fun (_ _:List Nat)=>?_
 exact⟨g,by omega,gx,S2.set (6,0) _ ((eA g _ _).trans e3) (eD g)⟩
end Go.Proofs.YtbceiadaihphaaaGreat
namespace Go.Proofs.YtbceiadaihphaaaGreat
open Go.Am
theorem _root_.Go.Am.St.aux {h:PT aj} {n i:Nat} {d:Rl→Nat} {C:Rl→Option aj} {B:Option aj} (S:St h n d C) (hi:∀ r B,C r=some B→d r≠i) (hin:i<n):St (h.set i B) n d C:=by
 refine⟨fun s D q=>?_,S.inj,S.wf.set (Nat.le_refl _) hin⟩
 rw[bO (fun e=>hi s D q e.symm)];exact S.get s D q
set_option maxRecDepth 100000 in
set_option maxHeartbeats 8000000 in
theorem Ao {h:PT aj} {nb nn off len cap ba:Nat} {d:Rl→Nat} {C:Rl→Option aj} {base th b:Int} {v1 lk sd p q:Value} {t:Nat} {W:List Int} {L:List Value} {k:Nat} {Lf:List Int} (S:St h nn d C) (M:dP d C W L k) (e5:C (5,0)=row [pt (d rM),I6 base,I6 nb,v1]) (cL:C (11,t)=row [pt (d (5,0)),I6 th,.slice (some ⟨d (12,t),off,none⟩) len cap,lk,sd,p,q]) (k_:C (12,t)=row (Lf.map (.int .i64))) (hl:0<len) (hL:Lf[off]? = some b) (hb:0≤b∧b<16) (hb0:0≤base∧base<100000) (ht:0≤th∧th<64) (hba:base+4*b+3=ba) (qE:ba<W.length) (hw:W.length≤100000):
  b9 Tryz.prog OP 173 [pt (d (11,t))] h nn fun r h' n'=>∃ g,nn≤g∧g<n'∧r = .agg ⟨[U8 2,.func (.func 177) ⟨[]⟩ ⟨[]⟩]⟩∧St h' n' (upd d (13,t) g) (upd (upd C (13,t) (row [I6 0,I6 0,pt (d rM),I6 th,I6 ba,.func (.func 180) ⟨[pt g]⟩ ⟨[]⟩,I6 0])) (11,t) (row [pt (d (5,0)),I6 th,.slice (some ⟨d (12,t),off,none⟩) len cap,pt g,sd,p,q])):=by
 obtain⟨m1,m2,m3,m4⟩:=M
 have g0:=S.at m1
 have gw:=S.at m2
 have g5:=S.at e5
 have iw:=S.at cL
 have uV:=S.at k_
 have n0:=S.lt m1
 have nw:=S.lt m2
 have n5:=S.lt e5
 have kY:Nat.blt 0 len=true:=Nat.ble_eq_true_of_le hl
 have CS:=S.lt cL
 have Ka:=S.lt k_
 have Kc:(Lf.map (Value.int .i64))[off]? = some (.int .i64 b):=by rw[List.getElem?_map,hL];rfl
 have hg:=eC qE
 have d1:=S.df m1 cL (by simp)
 have d2:=S.df m2 cL (by simp)
 obtain⟨t1,t2⟩:=ht
 obtain⟨b1,b2⟩:=hb
 obtain⟨b3,b4⟩:=hb0
 have b5:b<100:=by omega
 have a1:(0:Int)≤(ba:Int):=by omega
 have a2:(ba:Int)<(W.length:Int):=by omega
 have vF: ¬ (len:Int)=0:=by omega
 clear m1 m2 m3 m4 e5 k_
 refine aC (N:=32) Tryz.func173 rfl rfl fun z hP hO hro hN hQ=>?_
 repeat' first |simp(disch:=first |omega |assumption) only[go_sem, *,eX,oY] | (apply xs<;>intro _)<;>try omega | ((with_reducible refine bR 3 ?_);refine dz 32 3 w173_3 ?_) |refine fun (_ _:List Nat)=>?_ | (first |refine aT Tryz.func175 rfl ?_ ?_ ?_ ?_ |refine aT Tryz.func179 rfl ?_ ?_ ?_ ?_ |refine aT Tryz.func79 rfl ?_ ?_ ?_ ?_ |refine aT Tryz.func90 rfl ?_ ?_ ?_ ?_ |refine aT Tryz.func89 rfl ?_ ?_ ?_ ?_ |fail)<;>intros
 refine⟨nn+1,by omega,by omega,?_⟩
 refine St.aux ((((S.junk bG bH).new (13,t) _ bG bH).set (13,t) _ ah ah).set (11,t) _ ((au (by decide)).trans ((au (by decide)).trans cL)) (au (by decide)) |>.eq (by first | (rw[aN];done) | (rw[aN];rfl)) rfl) ?_ (by omega)
 intro r B e
 by_cases c:r=(13,t)
 ·subst c;rw[ah];omega
 ·rw[ay c]
  by_cases c2:r=(11,t)
  ·subst c2;have:=S.lt cL;omega
  ·rw[ay c2,ay c] at e
   have:=S.lt e;omega
end Go.Proofs.YtbceiadaihphaaaGreat
namespace Go.Proofs.YtbceiadaihphaaaGreat
open Go.Am
theorem _root_.Go.Am.St.give {h:PT aj} {n i:Nat} {d:Rl→Nat} {C:Rl→Option aj} {B:aj} (S:St h n d C) (r:Rl) (e:h.get i=some B) (hi:∀ s D,C s=some D→d s≠i):St h n (upd d r i) (upd C r (some B)):=by
 refine⟨fun s D q=>?_,fun s t q1 q2 q=>?_,S.wf⟩
 ·unfold upd at q ⊢
  split at q
  ·rename_i c;rw[if_pos c];rw[←Option.some.inj q];exact e
  ·rename_i c;rw[if_neg c];exact S.get s D q
 ·unfold upd at q q1 q2
  by_cases c1:s=r
  ·by_cases c2:t=r
   ·rw[c1,c2]
   ·rw[if_pos c1,if_neg c2] at q
    rw[if_neg c2] at q2
    obtain⟨D,hD⟩:=Option.ne_none_iff_exists'.1 q2
    exact absurd q.symm (hi t D hD)
  ·by_cases c2:t=r
   ·rw[if_neg c1,if_pos c2] at q
    rw[if_neg c1] at q1
    obtain⟨D,hD⟩:=Option.ne_none_iff_exists'.1 q1
    exact absurd q (hi s D hD)
   ·rw[if_neg c1,if_neg c2] at q
    rw[if_neg c1] at q1
    rw[if_neg c2] at q2
    exact S.inj s t q1 q2 q
theorem dP.upd {d:Rl→Nat} {C:Rl→Option aj} {W:List Int} {L:List Value} {k a b i:Nat} {B:Option aj} (M:dP d C W L k) (ha:2<a):dP (upd d (a,b) i) (upd C (a,b) B) W L k:=by
 obtain⟨m1,m2,m3,m4⟩:=M
 refine⟨?_,?_,?_,m4⟩
 ·rw[au (by omega),au (by omega),au (by omega)];exact m1
 ·rw[au (by omega)];exact m2
 ·rw[au (by omega)];exact m3
def gB (nb:Nat) (ms:List Nat) (b:Nat):Bool:=ms.any fun v=>decide (v%nb=b)
def dH (nb:Nat) (ms:List Nat):List Nat:=(List.range nb).filter (gB nb ms)
theorem wU (nb:Nat) (ms:List Nat) (b:Nat):(List.range (b+1)).filter (gB nb ms)=(List.range b).filter (gB nb ms)++if gB nb ms b=true then [b] else []:=by
 rw[List.range_succ,List.filter_append]
 congr 1
 by_cases c:gB nb ms b=true
 ·simp[c]
 ·simp[c]
def Gm (e:Nat) (th:Int) (sl:Value):List Value:=[pt e,I6 th,sl,.pointer none,U6 0,U8 0,.nilFunc]
theorem qP:∀ (f v s b:Nat),s<2^f→(b∈kV f v s↔v≤b∧s.testBit (b-v)=true)
 |0,v,s,b,h=>by
  have:s=0:=by simpa using h
  subst this
  simp[kV]
 |f+1,v,s,b,h=>by
  rw[kV]
  by_cases h0:s=0
  ·subst h0;simp
  ·rw[if_neg h0]
   have hlt:s/2<2^f:=by rw[Nat.pow_succ] at h;omega
   have ih:=qP f (v+1) (s/2) b hlt
   have key:v+1≤b→(s/2).testBit (b-(v+1))=s.testBit (b-v):=fun hb=>by
    rw[show b-v=(b-(v+1))+1 by omega,Nat.testBit_succ]
   by_cases h1:s%2=1
   ·rw[if_pos h1,List.mem_cons,ih]
    constructor
    ·rintro (rfl | ⟨a,c⟩)
     ·exact⟨Nat.le_refl _,by rw[Nat.sub_self,Nat.testBit_zero];simpa using h1⟩
     ·exact⟨by omega,by rw[←key a];exact c⟩
    ·rintro ⟨a,c⟩
     by_cases hb:b=v
     ·exact .inl hb
     ·exact .inr ⟨by omega,by rw[key (by omega)];exact c⟩
   ·rw[if_neg h1,ih]
    constructor
    ·rintro ⟨a,c⟩
     exact⟨by omega,by rw[←key a];exact c⟩
    ·rintro ⟨a,c⟩
     have hb:b≠v:=fun e=>by
      subst e
      rw[Nat.sub_self,Nat.testBit_zero] at c
      simp at c
      omega
     exact⟨by omega,by rw[key (by omega)];exact c⟩
theorem Mc {s b:Nat} (hs:s<2^64) (hb:b∈kV 64 0 s):b<64:=by
 have:=((qP 64 0 s b hs).1 hb).2
 rw[Nat.sub_zero] at this
 by_cases c:b<64
 ·exact c
 ·rw[Nat.testBit_lt_two_pow (Nat.lt_of_lt_of_le hs (Nat.pow_le_pow_right (by omega) (by omega)))] at this
  simp at this
set_option maxRecDepth 100000 in
set_option maxHeartbeats 8000000 in
theorem Ir {h:PT aj} {nb nn s:Nat} {d:Rl→Nat} {C:Rl→Option aj} {base th:Int} {v1:Value} {t k ba b0:Nat} {W:List Int} {L:List Value} (S:St h nn d C) (M:dP d C W L k) (hb0:0≤base∧base<100000) (qE:base+4*nb≤W.length) (hw:W.length≤100000) (e5:C (5,0)=row [pt (d rM),I6 base,I6 nb,v1]) (ht:0≤th∧th<64) (hnb:0<nb∧nb≤16) (hs:s<2^64) (hs0:s≠0) (um:(dH nb (kV 64 0 s))[0]? = some b0) (hba:base+4*(b0:Int)+3=ba) (Gt:b0<nb):
  b9 Tryz.prog OP 166 [pt (d (5,0)),I6 th,U6 s] h nn fun r h' n'=>∃ p q g,nn≤p∧p<q∧q<g∧g<n'∧r=dY [pt p,I6 0]∧St h' n' (upd (upd (upd d (11,t) p) (12,t) q) (13,t) g) (upd (upd (upd (upd C (11,t) (row (Gm (d (5,0)) th (.slice (some ⟨q,0,none⟩) (dH nb (kV 64 0 s)).length (aB+1))))) (12,t) (row ((dH nb (kV 64 0 s)).map fun b:Nat=>Value.int .i64 (b:Int)))) (13,t) (row [I6 0,I6 0,pt (d rM),I6 th,I6 ba,.func (.func 180) ⟨[pt g]⟩ ⟨[]⟩,I6 0])) (11,t) (row [pt (d (5,0)),I6 th,.slice (some ⟨q,0,none⟩) (dH nb (kV 64 0 s)).length (aB+1),pt g,U6 0,U8 2,.func (.func 177) ⟨[]⟩ ⟨[]⟩])):=by
 have g5:=S.at e5
 have n5:=S.lt e5
 obtain⟨t1,t2⟩:=ht
 have s1: ¬ (s:Int)=0:=by omega
 have W0:=S.wf
 generalize Nx:d (5,0)=de at*
 generalize hdm:d rM=dm at*
 have oM:=@EV OP rfl rfl s hs
 have hml:=sD 64 0 s
 have hmv:∀ v∈kV 64 0 s,v<64:=fun v hv=>Mc hs hv
 generalize kV 64 0 s=ms at*
 have nb0: ¬ (nb:Int)=0:=by omega
 refine aC (N:=71) Tryz.func166 rfl rfl fun z hP hO hro hN hQ=>?_
 repeat' first |simp(disch:=first |omega |assumption) only[go_sem, *] | (apply xs<;>intro _)<;>try omega |refine fun (_ _:List Nat)=>?_ | (first |refine aT Tryz.func171 rfl ?_ ?_ ?_ ?_ |fail)<;>intros
 refine dG (fun t m h' n'=>∃ (b:Nat) (sl:Value),b+t=nb∧m.n=71∧m.gD=[]∧m.get 0=pt de∧m.get 2=U6 s∧m.get 9=pt nn∧m.get 30=I6 nb∧m.get 31=I6 b∧Kept h h'∧iG h' n'∧nn+1≤n'∧h'.get nn=row (Gm de th sl)∧dX .i64 h' (nn+1) sl (((List.range b).filter (gB nb ms)).map fun v:Nat=>(v:Int))) nb ?_ ?_
 ·refine⟨0,.slice none 0 0,by omega,?_⟩
  have k1:Kept h (h.set nn (row (Gm de th (.slice none 0 0)))):=Kept.set' W0 (Nat.le_refl _) (Kept.refl _)
  have k2:iG (h.set nn (row (Gm de th (.slice none 0 0)))) (nn+1):=W0.set (by omega) (by omega)
  simp only[Gm] at k1 k2
  simp only[Gm,List.range_zero,List.filter_nil,List.map_nil]
  simp(disch:=first |omega |assumption) only[go_sem, *]
  exact⟨Nat.le_refl _,.inl ⟨rfl,rfl⟩⟩
 ·rintro tt m h1 n1 ih ⟨b,sl,hbt,m1,m2,m3,m4,m5,m6,m7,q1,q2,q3,q4,q5⟩
  simp only[Gm] at q4
  have q6:=q1 _ _ g5
  clear g5
  by_cases hb:b=nb
  ·have hb':(b:Int)=nb:=by omega
   clear ih
   subst hb
   obtain⟨g,w1,w2,w3⟩:∃ g,sl = .slice (some ⟨g,0,none⟩) (dH b ms).length (aB+1)∧nn+1≤g∧h1.get g=row ((dH b ms).map fun b:Nat=>Value.int .i64 (b:Int)):=by
    rcases q5 with ⟨w1,w2⟩ | ⟨g,w1,w2,w3⟩
    ·have:dH b ms=[]:=List.map_eq_nil_iff.1 w2
     rw[this] at um;simp at um
    ·exact⟨g,by rw[w1,List.length_map];rfl,w2,by rw[w3,List.map_map];rfl⟩
   have St1:=((S.kept q1 q2).give (11,t) q4 fun r D e=>by have:=S.lt e;omega).give (12,t) w3 fun r D e=>by
    by_cases c:r=(11,t)
    ·subst c;rw[ah];omega
    ·rw[ay c] at e ⊢
     have:=S.lt e;omega
   have M1:=(M.upd (a:=11) (b:=t) (i:=nn) (B:=row [pt de,I6 th,sl,.pointer none,U6 0,U8 0,.nilFunc]) (by omega)).upd (a:=12) (b:=t) (i:=g) (B:=row ((dH b ms).map fun b:Nat=>Value.int .i64 (b:Int))) (by omega)
   subst w1
   have hlen:0<(dH b ms).length:=by
    cases hc:dH b ms with
    |nil=>rw[hc] at um;simp at um
    |cons _ _=>simp
   have YT:(0:Int)≤(b0:Int)∧(b0:Int)<16:=by omega
   have bg:=Ao (nb:=b) (off:=0) (len:=(dH b ms).length) (cap:=aB+1) (ba:=ba) (base:=base) (th:=th) (b:=b0) (v1:=v1) (lk := .pointer none) (sd:=U6 0) (p:=U8 0) (q := .nilFunc) (t:=t) (Lf:=(dH b ms).map fun b:Nat=>(b:Int)) St1 M1 (by simp(disch:=decide) only[rM,ah,au,e5];rw[←hdm]) (by simp(disch:=decide) only[ah,au,Nx]) (by simp(disch:=decide) only[ah,au,List.map_map];rfl) hlen (by rw[List.getElem?_map,um];rfl) YT hb0 ⟨t1,t2⟩ hba (by omega) hw
   rw[show Go.Am.upd (Go.Am.upd d (11,t) nn) (12,t) g (11,t)=nn from by rw[au (by decide),ah]] at bg
   repeat' first |simp(disch:=first |omega |assumption) only[go_sem, *] | (apply xs<;>intro _)<;>try omega |refine fun (_ _:List Nat)=>?_
   refine eJ (bg) (by simp only[*]) (by simp only[*]) (by simp only[go_sem, *]) (by simp only[go_sem, *]) ?_
   rintro r h2 n2 ⟨g3,x1,x2,rfl,S3⟩
   have f11:=S3.at (r:=(11,t)) ah
   rw[show Go.Am.upd (Go.Am.upd (Go.Am.upd d (11,t) nn) (12,t) g) (13,t) g3 (11,t)=nn from by rw[au (by decide),au (by decide),ah]] at f11
   have m_:=q2.lt w3
   clear q1 q2 q4 q5 q6 w3 St1 M1 bg e5
   repeat' first |simp(disch:=first |omega |assumption) only[go_sem, *] | (apply xs<;>intro _)<;>try omega |refine fun (_ _:List Nat)=>?_
   have YU:d (0,0)=dm:=hdm
   refine⟨nn,g,g3,by omega,by omega,by omega,x2,rfl,(S3.set (11,t) _ ah (by rw[au (by decide),au (by decide),ah])).eq ?_ rfl⟩
   rw[aN]
   simp(disch:=decide) only[Gm,rM,ah,au,Nx,YU]
  ·have hb':(b:Int)<nb:=by omega
   repeat' first |simp(disch:=first |omega |assumption) only[go_sem, *] | (apply xs<;>intro _)<;>try omega |refine fun (_ _:List Nat)=>?_
   refine eJ (oM _ _ q2) (by simp only[*]) (by simp only[*]) (by simp only[go_sem, *]) (by simp only[go_sem, *]) ?_
   rintro r h2 n2 ⟨r1,r2,r3,r4⟩
   have q7:=r2 _ _ q4
   have q8:=r2 _ _ q6
   have k2:Kept h h2:=q1.trans r2
   have g2:dX .i64 h2 (nn+1) sl (((List.range b).filter (gB nb ms)).map fun v:Nat=>(v:Int)):=by
    rcases q5 with q | ⟨g,w1,w2,w3⟩
    ·exact .inl q
    ·exact .inr ⟨g,w1,w2,r2 _ _ w3⟩
   have n3:nn+1≤n2:=by omega
   clear q1 q2 q3 q4 q5 q6 r2
   obtain⟨rl,hrl⟩:∃ rl cp,r = .slice rl ms.length cp:=by
    rcases r1 with ⟨w1,w2⟩ | ⟨g,w1,w2,w3⟩
    ·have:ms=[]:=by simpa using w2
     subst this
     exact⟨_,_,w1⟩
    ·rw[List.length_map] at w1
     exact⟨_,_,w1⟩
   obtain⟨cp,rfl⟩:=hrl
   repeat' first |simp(disch:=first |omega |assumption) only[go_sem, *] | (apply xs<;>intro _)<;>try omega |refine fun (_ _:List Nat)=>?_
   generalize hX:((List.range b).filter (gB nb ms)).map (fun v:Nat=>(v:Int))=X at*
   have hXl:X.length≤b:=by rw[←hX,List.length_map];exact Nat.le_trans (List.length_filter_le _ _) (by rw[List.length_range];exact Nat.le_refl _)
   have hin:gB nb ms b=true→((List.range (b+1)).filter (gB nb ms)).map (fun v:Nat=>(v:Int))=X++[(b:Int)]:=fun c=>by rw[wU,if_pos c,List.map_append,hX];rfl
   have hout:gB nb ms b=false→((List.range (b+1)).filter (gB nb ms)).map (fun v:Nat=>(v:Int))=X:=fun c=>by rw[wU,c,List.map_append,hX];simp
   clear hX
   have FY:((b+1:Nat):Int)=(b:Int)+1:=by omega
   refine dG (fun t2 m' h' n'=>∃ i:Nat,i+t2=ms.length∧(∀ v∈ms.take i,v%nb≠b)∧m'.n=71∧m'.gD=[]∧m'.get 0=pt de∧m'.get 2=U6 s∧m'.get 9=pt nn∧m'.get 30=I6 nb∧m'.get 31=I6 b∧m'.get 10=I6 b∧m'.get 35 = .slice rl ms.length cp∧m'.get 36=I6 ms.length∧m'.get 37=I6 i∧h'=h2∧n'=n2) ms.length ?_ ?_
   ·refine⟨0,by omega,by simp,?_⟩
    simp(disch:=first |omega |assumption) only[go_sem, *]
   ·rintro t2 m' h' n' ih2 ⟨i,hit,hno,p1,p2,p3,p4,p5,p6,p7,p8,p9,p10,p11,rfl,rfl⟩
    clear m1 m2 m3 m4 m5 m6 m7
    by_cases hi:i=ms.length
    ·have hi':(i:Int)=ms.length:=by omega
     have hw:gB nb ms b=false:=by
      rw[hi,List.take_length] at hno
      simp only[gB,List.any_eq_false,decide_eq_true_eq]
      exact hno
     clear ih2 hno
     repeat' first |simp(disch:=first |omega |assumption) only[go_sem, *] | (apply xs<;>intro _)<;>try omega |refine fun (_ _:List Nat)=>?_
     refine ih (nb-(b+1)) _ _ _ (by omega) ⟨b+1,sl,by omega,?_⟩
     rw[hout hw,FY]
     simp only[Gm]
     simp(disch:=first |omega |assumption) only[go_sem, *]
    ·have hi':(i:Int)<ms.length:=by omega
     obtain⟨v,hv⟩:∃ v,ms[i]? = some v:=⟨ms[i]'(by omega),List.getElem?_eq_getElem _⟩
     have hvm:v∈ms:=List.mem_of_getElem? hv
     have ajo:=hmv v hvm
     obtain⟨g,rfl,gr⟩:∃ g,rl=some ⟨g,0,none⟩∧h'.get g=row ((ms.map fun v:Nat=>(v:Int)).map (.int .i64)):=by
      rcases r1 with ⟨w1,w2⟩ | ⟨g,w1,w2,w3⟩
      ·have:ms=[]:=by simpa using w2
       subst this;simp at hv
      ·injection w1 with w1;exact⟨g,w1,w3⟩
     have hgv:((ms.map fun v:Nat=>(v:Int)).map (Value.int .i64))[i]? = some (.int .i64 v):=by rw[List.getElem?_map,List.getElem?_map,hv];rfl
     have Ny:(v:Int).tmod nb=((v%nb:Nat):Int):=rfl
     by_cases Ns:v%nb=b
     ·have YV:((v%nb:Nat):Int)=b:=by omega
      have hw:gB nb ms b=true:=by
       simp only[gB,List.any_eq_true,decide_eq_true_eq]
       exact⟨v,hvm,Ns⟩
      clear ih2 hno r1 hout
      have hWn:=r3
      rcases g2 with ⟨rfl,rfl⟩ | ⟨g',rfl,w2,w3⟩
      ·repeat' first |simp(disch:=first |omega |assumption) only[go_sem, *] | (apply xs<;>intro _)<;>try omega |refine fun (_ _:List Nat)=>?_ | (first |refine aT Tryz.func168 rfl ?_ ?_ ?_ ?_ |refine aT Tryz.func85 rfl ?_ ?_ ?_ ?_ |fail)<;>intros
       refine ih (nb-(b+1)) _ _ _ (by omega) ⟨b+1,.slice (some ⟨n'+1,0,none⟩) 1 (aB+1),by omega,by simp(disch:=first |omega |assumption) only[go_sem, *],by simp(disch:=first |omega |assumption) only[go_sem, *],by simp(disch:=first |omega |assumption) only[go_sem, *],by simp(disch:=first |omega |assumption) only[go_sem, *],by simp(disch:=first |omega |assumption) only[go_sem, *],by simp(disch:=first |omega |assumption) only[go_sem, *],by simp(disch:=first |omega |assumption) only[go_sem, *],?_,?_,by omega,by rw[cG];rfl,?_⟩
       ·repeat refine Kept.set' W0 (by omega) ?_
        exact k2
       ·repeat refine iG.set' (by omega) ?_
        exact r3.mono (by omega)
       ·rw[hin hw]
        exact .inr ⟨n'+1,rfl,by omega,by simp(disch:=omega) only[bO,cG];rfl⟩
      ·have hgn:=r3.lt w3
       have tZ:List.take X.length (X.map (Value.int .i64))=X.map (.int .i64):=td
       have hmX:(X.map (Value.int .i64)).length=X.length:=List.length_map _
       have Rv:Nat.ble (X.length+1) 1048576=true:=Nat.ble_eq_true_of_le (by omega)
       have hgN:g'≠nn:=by omega
       have YP:X.map (Value.int .i64)++[.int .i64 (b:Int)]=(X++[(b:Int)]).map (.int .i64):=by simp
       repeat' first |simp(disch:=first |omega |assumption) only[go_sem, *] | (apply xs<;>intro _)<;>try omega |refine fun (_ _:List Nat)=>?_ | (first |refine aT Tryz.func168 rfl ?_ ?_ ?_ ?_ |refine aT Tryz.func85 rfl ?_ ?_ ?_ ?_ |fail)<;>intros
       refine ih (nb-(b+1)) _ _ _ (by omega) ⟨b+1,.slice (some ⟨n'+1,0,none⟩) (X.length+1) (aB+1),by omega,by simp(disch:=first |omega |assumption) only[go_sem, *],by simp(disch:=first |omega |assumption) only[go_sem, *],by simp(disch:=first |omega |assumption) only[go_sem, *],by simp(disch:=first |omega |assumption) only[go_sem, *],by simp(disch:=first |omega |assumption) only[go_sem, *],by simp(disch:=first |omega |assumption) only[go_sem, *],by simp(disch:=first |omega |assumption) only[go_sem, *],?_,?_,by omega,by rw[cG];rfl,?_⟩
       ·repeat refine Kept.set' W0 (by omega) ?_
        exact k2
       ·repeat refine iG.set' (by omega) ?_
        exact r3.mono (by omega)
       ·rw[hin hw]
        exact .inr ⟨n'+1,by simp,by omega,by simp(disch:=omega) only[bO,cG]⟩
     ·have YV: ¬ ((v%nb:Nat):Int)=b:=by omega
      have hi1:((i+1:Nat):Int)=(i:Int)+1:=by omega
      have YW:∀ x∈ms.take (i+1),x%nb≠b:=by
       intro x hx
       rw[List.take_add_one,hv] at hx
       rcases List.mem_append.1 hx with q |q
       ·exact hno x q
       ·simp at q;rw[q];exact Ns
      clear ih hno r1 hin hout g2
      repeat' first |simp(disch:=first |omega |assumption) only[go_sem, *] | (apply xs<;>intro _)<;>try omega |refine fun (_ _:List Nat)=>?_ | (first |refine aT Tryz.func168 rfl ?_ ?_ ?_ ?_ |refine aT Tryz.func85 rfl ?_ ?_ ?_ ?_ |fail)<;>intros
      refine ih2 (ms.length-(i+1)) _ _ _ (by omega) ⟨i+1,by omega,YW,?_⟩
      rw[hi1]
      simp(disch:=first |omega |assumption) only[go_sem, *]
end Go.Proofs.YtbceiadaihphaaaGreat
