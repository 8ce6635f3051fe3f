/-
  A part of the proof: contracts of inner functions.
-/
import Derived.Test.YtbceiadaihphaaaGreatPJ
set_option linter.unusedVariables false
set_option linter.unusedSimpArgs false
namespace Go.Proofs.YtbceiadaihphaaaGreat
open Go.Am
theorem L5 {w set:Int} (hw:0≤w∧w<64) (hs:0≤set∧set<18446744073709551616):((((BitVec.ofInt 64 ((BitVec.ofInt 64 0|||BitVec.ofInt 64 (IntKind.u64.wrap (1*2^min w.toNat 64))).toNat:Int)&&&BitVec.ofInt 64 set).toNat:Nat):Int)=0)↔sB w set=false:=by
 obtain⟨v,rfl⟩:∃ v:Nat,w=v:=⟨w.toNat,by omega⟩
 obtain⟨s,rfl⟩:∃ s:Nat,set=s:=⟨set.toNat,by omega⟩
 have hv:v<64:=by omega
 have hp:2^v<2^64:=Nat.pow_lt_pow_right (by decide) hv
 have Al:(2:Nat)^64=18446744073709551616:=by decide
 have Rq:s<2^64:=by omega
 have hp0:0<2^v:=Nat.two_pow_pos v
 have e0:(1:Int)*2^min (v:Int).toNat 64=((2^v:Nat):Int):=by
  rw[Int.toNat_natCast,Nat.min_eq_left (by omega)];simp
 have e1:IntKind.u64.wrap ((2^v:Nat):Int)=((2^v:Nat):Int):=wrap_u64 (Int.natCast_nonneg _) (by rw[Al] at hp;exact Int.ofNat_lt.2 hp)
 rw[e0,e1]
 have e2:∀ x:Nat,BitVec.ofInt 64 (x:Int)=BitVec.ofNat 64 x:=fun x=>BitVec.ofInt_natCast 64 x
 have e3:BitVec.ofInt 64 0=0#64:=by decide
 rw[e2,e3,BitVec.zero_or,e2,e2,BitVec.toNat_and,BitVec.toNat_ofNat,BitVec.toNat_ofNat,BitVec.toNat_ofNat,Nat.mod_eq_of_lt hp,Nat.mod_eq_of_lt hp,Nat.mod_eq_of_lt Rq]
 have hand:2^v&&&s=if s.testBit v=true then 2^v else 0:=by
  apply Nat.eq_of_testBit_eq
  intro i
  rw[Nat.testBit_and,Nat.testBit_two_pow]
  by_cases c:v=i
  ·subst c;cases hb:s.testBit v<;>simp
  ·cases hb:s.testBit v<;>simp[c]
 rw[hand]
 have e4:(decide (0≤(v:Int)∧(v:Int)<64))=true:=decide_eq_true ⟨by omega,by omega⟩
 unfold sB
 rw[e4,Bool.true_and,Int.toNat_natCast,Int.toNat_natCast]
 cases s.testBit v with
 |true=>simp only[if_true,decide_true,reduceCtorEq,iff_false];omega
 |false=>simp
theorem Ii {w set:Int} (hw:0≤w∧w<64) (hs:0≤set∧set<18446744073709551616):(IntKind.u64.wrap ((BitVec.ofInt IntKind.u64.bits (IntKind.u64.wrap ((BitVec.ofInt IntKind.u64.bits 0|||BitVec.ofInt IntKind.u64.bits (IntKind.u64.wrap (1*2^min w.toNat IntKind.u64.bits))).toNat:Int))&&&BitVec.ofInt IntKind.u64.bits set).toNat:Int)=0)↔sB w set=false:=by
 have q:∀ x:BitVec 64,IntKind.u64.wrap (x.toNat:Int)=x.toNat:=fun x=>by
  have:=x.isLt
  have Al:(2:Nat)^64=18446744073709551616:=by decide
  rw[Al] at this
  exact wrap_u64 (Int.natCast_nonneg _) (Int.ofNat_lt.2 this)
 have r:=L5 hw hs
 show (IntKind.u64.wrap ((BitVec.ofInt 64 (IntKind.u64.wrap ((BitVec.ofInt 64 0|||BitVec.ofInt 64 (IntKind.u64.wrap (1*2^min w.toNat 64))).toNat:Int))&&&BitVec.ofInt 64 set).toNat:Int)=0)↔_
 rw[q,q]
 exact r
end Go.Proofs.YtbceiadaihphaaaGreat
namespace Go.Proofs.YtbceiadaihphaaaGreat
open Go.Am
set_option maxRecDepth 100000 in
set_option maxHeartbeats 8000000 in
theorem Ij {h:PT aj} {n nn:Nat} {d:Rl→Nat} {C:Rl→Option aj} {base th set:Int} {P:List (Int×Bool)} {W:List Int} {L:List Value} {k t ba:Nat} {w:Int} {x:EW} (S:St h nn d C) (E:qD d C base n P) (M:dP d C W L k) (hk:k≤100000) (ht:0≤th∧th<64) (hn:n≤64) (hs:x.slot<n) (hba:base+2*(x.slot:Int)=ba) (hb0:0≤base) (hb:ba<W.length) (hw:W.length≤100000) (hW:W[ba]=w) (xT:0≤w∧w<18446744073709551616) (hx:x.st=2)
  (jD:C (10,t)=row [.iface 282 (pt (d (11,t)))]) (cL:C (11,t)=row (eY x (d (5,0)) th set)):
  b9 Tryz.prog OP 59 [pt (d (10,t))] h nn fun r h' n'=>∃ g,nn≤g∧g<n'∧r=dY [U8 17,.bool (decide ((x.step n set w).st=3))]∧St h' n' (upd d rL g) (upd (bM C (d rW) g W (L++bI th ba 1 w w false) (k+1)) (11,t) (row (eY (x.step n set w) (d (5,0)) th set))):=by
 obtain⟨sl,se,st⟩:=x
 simp only at hs hba hx
 subst hx
 obtain⟨e1,e2,e3,e4,e5⟩:=E
 have g2:=S.at e2
 have g7:=S.at e4
 have n_:=S.at jD
 have iw:=S.at cL
 have n2:=S.lt e2
 have n7:=S.lt e4
 have EU:=S.lt jD
 have CS:=S.lt cL
 have d1:=S.df e2 cL (by simp)
 obtain⟨t1,t2⟩:=ht
 have s1:(sl:Int)<n:=by omega
 have eA:∀ g,bM C (d rW) g W (L++bI th ba 1 w w false) (k+1) (11,t)=C (11,t):=fun g=>aG (by decide)
 have eD:∀ g,upd d rL g (11,t)=d (11,t):=fun g=>au (by decide)
 clear e1
 simp only[eY] at iw
 refine aC (N:=13) Tryz.func59 rfl rfl fun z hP hO hro hN hQ=>?_
 repeat' first |simp(disch:=first |omega |assumption) only[go_sem, *,ET] | (apply xs<;>intro _)<;>try omega | ((with_reducible refine bR 1 ?_);refine dz 40 1 w213_1 ?_) |refine fun (_ _:List Nat)=>?_ | (first |refine aT Tryz.func209 rfl ?_ ?_ ?_ ?_ |refine aT Tryz.func213 rfl ?_ ?_ ?_ ?_ |fail)<;>intros
 refine eJ (lX qO (S.cg bG bH) M hk ⟨t1,t2⟩ hb) (by simp only[*]) (by simp only[*]) (by simp only[go_sem, *]) (by simp only[go_sem, *]) ?_
 rintro r h2 sC ⟨g,m_,gx,rfl,S2⟩
 rw[hW] at S2 ⊢
 have f2:=S2.iZ (a:=5) (b:=0) (by decide) e2
 have f11:=S2.iZ (a:=11) (b:=t) (by decide) cL
 simp only[eY] at f11
 clear g2 g7 n_ iw
 by_cases c1:w=se
 ·subst c1
  have es:EW.step ⟨sl,w,2⟩ n set w=⟨sl,w,2⟩:=by simp[EW.step]
  rw[es] at hQ
  repeat' first |simp(disch:=first |omega |assumption) only[go_sem, *] | (apply xs<;>intro _)<;>try omega | ((with_reducible refine bR 5 ?_);refine dz 29 5 w209_5 ?_) |refine fun (_ _:List Nat)=>?_
  exact⟨g,by omega,gx,S2.eq (sn ((eA g).trans cL)).symm rfl⟩
 ·by_cases c2:(sl:Int)+1=n
  ·have es:EW.step ⟨sl,se,2⟩ n set w=⟨sl+1,se,3⟩:=by simp[EW.step,EW.next,c1,show sl+1=n by omega]
   have ec:((sl+1:Nat):Int)=n:=by omega
   rw[es] at hQ
   simp only[eY,ec] at hQ
   repeat' first |simp(disch:=first |omega |assumption) only[go_sem, *] | (apply xs<;>intro _)<;>try omega | ((with_reducible refine bR 5 ?_);refine dz 29 5 w209_5 ?_) | ((with_reducible refine bR 2 ?_);refine dz 28 2 w210_2 ?_) |refine fun (_ _:List Nat)=>?_ | (first |refine aT Tryz.func210 rfl ?_ ?_ ?_ ?_ |fail)<;>intros
   exact⟨g,by omega,gx,(((S2.set (11,t) _ ((eA g).trans cL) (eD g)).set (11,t) _ ah (eD g)).set (11,t) _ ah (eD g)).eq (by first | (rw[aN,aN];done) | (rw[aN,aN];rfl)) rfl⟩
  ·have es:EW.step ⟨sl,se,2⟩ n set w=⟨sl+1,se,0⟩:=by simp[EW.step,EW.next,c1,show ¬sl+1=n by omega]
   have ec:((sl+1:Nat):Int)=(sl:Int)+1:=by omega
   rw[es] at hQ
   simp only[eY,ec] at hQ
   repeat' first |simp(disch:=first |omega |assumption) only[go_sem, *] | (apply xs<;>intro _)<;>try omega | ((with_reducible refine bR 5 ?_);refine dz 29 5 w209_5 ?_) | ((with_reducible refine bR 2 ?_);refine dz 28 2 w210_2 ?_) |refine fun (_ _:List Nat)=>?_ | (first |refine aT Tryz.func210 rfl ?_ ?_ ?_ ?_ |fail)<;>intros
   exact⟨g,by omega,gx,((S2.set (11,t) _ ((eA g).trans cL) (eD g)).set (11,t) _ ah (eD g)).eq (by first | (rw[aN];done) | (rw[aN];rfl)) rfl⟩
set_option maxRecDepth 100000 in
set_option maxHeartbeats 8000000 in
theorem Ik {h:PT aj} {n nn:Nat} {d:Rl→Nat} {C:Rl→Option aj} {base th set:Int} {P:List (Int×Bool)} {W:List Int} {L:List Value} {k t ba:Nat} {w:Int} {x:EW} (S:St h nn d C) (E:qD d C base n P) (M:dP d C W L k) (hk:k≤100000) (ht:0≤th∧th<64) (hn:n≤64) (hs:x.slot<n) (hba:base+2*(x.slot:Int)+1=ba) (hb0:0≤base) (hb:ba<W.length) (hw:W.length≤100000) (hW:W[ba]=w) (xT:0≤w∧w<64) (dr:0≤set∧set<18446744073709551616) (hx:x.st=1)
  (jD:C (10,t)=row [.iface 282 (pt (d (11,t)))]) (cL:C (11,t)=row (eY x (d (5,0)) th set)):
  b9 Tryz.prog OP 59 [pt (d (10,t))] h nn fun r h' n'=>∃ g,nn≤g∧g<n'∧r=dY [U8 18,.bool (decide ((x.step n set w).st=3))]∧St h' n' (upd d rL g) (upd (bM C (d rW) g W (L++bI th ba 1 w w false) (k+1)) (11,t) (row (eY (x.step n set w) (d (5,0)) th set))):=by
 obtain⟨sl,se,st⟩:=x
 simp only at hs hba hx
 subst hx
 obtain⟨e1,e2,e3,e4,e5⟩:=E
 have g2:=S.at e2
 have g7:=S.at e4
 have n_:=S.at jD
 have iw:=S.at cL
 have n2:=S.lt e2
 have n7:=S.lt e4
 have EU:=S.lt jD
 have CS:=S.lt cL
 have d1:=S.df e2 cL (by simp)
 obtain⟨t1,t2⟩:=ht
 have s1:(sl:Int)<n:=by omega
 have eA:∀ g,bM C (d rW) g W (L++bI th ba 1 w w false) (k+1) (11,t)=C (11,t):=fun g=>aG (by decide)
 have eD:∀ g,upd d rL g (11,t)=d (11,t):=fun g=>au (by decide)
 clear e1
 simp only[eY] at iw
 refine aC (N:=13) Tryz.func59 rfl rfl fun z hP hO hro hN hQ=>?_
 repeat' first |simp(disch:=first |omega |assumption) only[go_sem, *,ET] | (apply xs<;>intro _)<;>try omega | ((with_reducible refine bR 1 ?_);refine dz 58 1 w212_1 ?_) |refine fun (_ _:List Nat)=>?_ | (first |refine aT Tryz.func209 rfl ?_ ?_ ?_ ?_ |refine aT Tryz.func212 rfl ?_ ?_ ?_ ?_ |fail)<;>intros
 refine eJ (lX qO (S.cg bG bH) M hk ⟨t1,t2⟩ hb) (by simp only[*]) (by simp only[*]) (by simp only[go_sem, *]) (by simp only[go_sem, *]) ?_
 rintro r h2 sC ⟨g,m_,gx,rfl,S2⟩
 rw[hW] at S2 ⊢
 have f2:=S2.iZ (a:=5) (b:=0) (by decide) e2
 have f11:=S2.iZ (a:=11) (b:=t) (by decide) cL
 simp only[eY] at f11
 clear g2 g7 n_ iw
 have yB:=@Ii w set xT dr
 obtain⟨w1,w2⟩:=xT
 by_cases c1:sB w set=true
 ·have es:EW.step ⟨sl,se,1⟩ n set w=⟨sl,se,2⟩:=by simp[EW.step,c1]
  have L6:=mt yB.1 (by rw[c1];simp)
  simp(disch:=omega) only[go_sem] at L6
  rw[es] at hQ
  simp only[eY] at hQ
  clear yB
  repeat' first |simp(disch:=first |omega |assumption) only[go_sem, *] | (apply xs<;>intro _)<;>try omega |refine fun (_ _:List Nat)=>?_ | (first |refine aT Tryz.func214 rfl ?_ ?_ ?_ ?_ |fail)<;>intros
  rw[cE]
  repeat' first |simp(disch:=first |omega |assumption) only[go_sem, *] | (apply xs<;>intro _)<;>try omega |refine fun (_ _:List Nat)=>?_
  rw[cE]
  repeat' first |simp(disch:=first |omega |assumption) only[go_sem, *] | (apply xs<;>intro _)<;>try omega | ((with_reducible refine bR 5 ?_);refine dz 29 5 w209_5 ?_) |refine fun (_ _:List Nat)=>?_
  exact⟨g,by omega,by omega,((S2.set (11,t) _ ((eA g).trans cL) (eD g)).junk (i:=sC) (m:=sC+1) bG bH)⟩
 ·have L6:=yB.2 (by simpa using c1)
  simp(disch:=omega) only[go_sem] at L6
  by_cases c2:(sl:Int)+1=n
  ·have es:EW.step ⟨sl,se,1⟩ n set w=⟨sl+1,se,3⟩:=by simp[EW.step,EW.next,c1,show sl+1=n by omega]
   have ec:((sl+1:Nat):Int)=n:=by omega
   rw[es] at hQ
   simp only[eY,ec] at hQ
   clear yB
   repeat' first |simp(disch:=first |omega |assumption) only[go_sem, *] | (apply xs<;>intro _)<;>try omega |refine fun (_ _:List Nat)=>?_ | (first |refine aT Tryz.func214 rfl ?_ ?_ ?_ ?_ |fail)<;>intros
   rw[cE]
   repeat' first |simp(disch:=first |omega |assumption) only[go_sem, *] | (apply xs<;>intro _)<;>try omega |refine fun (_ _:List Nat)=>?_
   rw[cE]
   repeat' first |simp(disch:=first |omega |assumption) only[go_sem, *] | (apply xs<;>intro _)<;>try omega | ((with_reducible refine bR 5 ?_);refine dz 29 5 w209_5 ?_) | ((with_reducible refine bR 2 ?_);refine dz 28 2 w210_2 ?_) |refine fun (_ _:List Nat)=>?_ | (first |refine aT Tryz.func210 rfl ?_ ?_ ?_ ?_ |fail)<;>intros
   exact⟨g,by omega,by omega,((((((S2.set (11,t) _ ((eA g).trans cL) (eD g)).junk (i:=sC) (m:=sC+1) bG bH)).set (11,t) _ ah (eD g)).set (11,t) _ ah (eD g)).set (11,t) _ ah (eD g)).eq (by first | (rw[aN,aN,aN];done) | (rw[aN,aN,aN];rfl)) rfl⟩
  ·have es:EW.step ⟨sl,se,1⟩ n set w=⟨sl+1,se,0⟩:=by simp[EW.step,EW.next,c1,show ¬sl+1=n by omega]
   have ec:((sl+1:Nat):Int)=(sl:Int)+1:=by omega
   rw[es] at hQ
   simp only[eY,ec] at hQ
   clear yB
   repeat' first |simp(disch:=first |omega |assumption) only[go_sem, *] | (apply xs<;>intro _)<;>try omega |refine fun (_ _:List Nat)=>?_ | (first |refine aT Tryz.func214 rfl ?_ ?_ ?_ ?_ |fail)<;>intros
   rw[cE]
   repeat' first |simp(disch:=first |omega |assumption) only[go_sem, *] | (apply xs<;>intro _)<;>try omega |refine fun (_ _:List Nat)=>?_
   rw[cE]
   repeat' first |simp(disch:=first |omega |assumption) only[go_sem, *] | (apply xs<;>intro _)<;>try omega | ((with_reducible refine bR 5 ?_);refine dz 29 5 w209_5 ?_) | ((with_reducible refine bR 2 ?_);refine dz 28 2 w210_2 ?_) |refine fun (_ _:List Nat)=>?_ | (first |refine aT Tryz.func210 rfl ?_ ?_ ?_ ?_ |fail)<;>intros
   exact⟨g,by omega,by omega,(((((S2.set (11,t) _ ((eA g).trans cL) (eD g)).junk (i:=sC) (m:=sC+1) bG bH)).set (11,t) _ ah (eD g)).set (11,t) _ ah (eD g)).eq (by first | (rw[aN,aN];done) | (rw[aN,aN];rfl)) rfl⟩
end Go.Proofs.YtbceiadaihphaaaGreat
