/-
  A part of the proof: contracts of inner functions.
-/
import Derived.Test.YtbceiadaihphaaaGreatPM
set_option linter.unusedVariables false
set_option linter.unusedSimpArgs false
namespace Go.Proofs.YtbceiadaihphaaaGreat
open Go.Am
structure wR (d:Rl→Nat) (C:Rl→Option aj) (base:Int) (n:Nat) (N:List Int) (B:List Bool):Prop where
 uT:C (4,0)=row [.iface 146 (.agg ⟨[.iface 140 (pt (d (5,0)))]⟩),U8 1,I6 n]
 xM:C (5,0)=row [pt (d rM),I6 base,.slice (some ⟨d (6,0),0,none⟩) n n,.slice (some ⟨d (7,0),0,none⟩) n n]
 nums:C (6,0)=row (N.map (.int .u64))
 begun:C (7,0)=row (B.map .bool)
 ai7:N.length=n
 ai8:B.length=n
theorem _root_.Go.Am.St.iZ {h:PT aj} {n g w k a b:Nat} {d:Rl→Nat} {C:Rl→Option aj} {W:List Int} {L:List Value} {B:aj} (S:St h n (upd d rL g) (bM C w g W L k)) (ha:2<a) (e:C (a,b)=some B):h.get (d (a,b))=some B:=by
 have q:=S.at (r:=(a,b)) (by rw[aG ha];exact e)
 rwa [au (by omega)] at q
theorem qO:BS OP:=⟨rfl,rfl,rfl,rfl,rfl,rfl⟩
set_option maxHeartbeats 4000000 in
theorem Ic {h:PT aj} {n nn:Nat} {d:Rl→Nat} {C:Rl→Option aj} {base th v:Int} {N:List Int} {B:List Bool} {s t:Nat} (S:St h nn d C) (E:wR d C base n N B) (ht:0≤th∧th<64) (hn:n≤64) (hs:s<n) (hv:0≤v∧v<64) (hb:B[s]? = some false) (he:∃ x,N[s]? = some x∧x.tmod 2=0):
  b9 Tryz.prog OP 69 [pt (d (4,0)),I6 th,I6 s,I6 v] h nn fun r h' n'=>∃ p q,nn≤q∧q<p∧p<n'∧r=dY [pt p,I6 0]∧St h' n' (upd (upd d (9,t) q) (8,t) p) (upd (upd (upd C (7,0) (row ((B.set s true).map .bool))) (9,t) (row [pt (d (5,0)),I6 th,I6 s,.func (.func 139) ⟨[pt q]⟩ ⟨[]⟩])) (8,t) (row [.iface 258 (pt q)])):=by
 obtain⟨e1,e2,e3,e4,e5,e6⟩:=E
 have g1:=S.at e1
 have g2:=S.at e2
 have g3:=S.at e3
 have g4:=S.at e4
 have n1:=S.lt e1
 have n2:=S.lt e2
 have n3:=S.lt e3
 have n4:=S.lt e4
 obtain⟨x,hx1,xK⟩:=he
 obtain⟨t1,t2⟩:=ht
 obtain⟨v1,v2⟩:=hv
 have q1:(N.map (Value.int .u64))[s]? = some (.int .u64 x):=by rw[List.getElem?_map,hx1];rfl
 have q2:(B.map Value.bool)[s]? = some (.bool false):=by rw[List.getElem?_map,hb];rfl
 have s1:(s:Int)<n:=by omega
 have q3:(B.map Value.bool).set s (.bool true)=(B.set s true).map .bool:=by rw[List.map_set]
 clear e1 e2 e3
 refine aC (N:=37) Tryz.func69 rfl rfl fun z hP hO hro hN hQ=>?_
 repeat' first |simp(disch:=first |omega |assumption) only[go_sem, *] | (apply xs<;>intro _)<;>try omega |refine fun (_ _:List Nat)=>?_ | (first |refine aT Tryz.func77 rfl ?_ ?_ ?_ ?_ |refine aT Tryz.func148 rfl ?_ ?_ ?_ ?_ |refine aT Tryz.func132 rfl ?_ ?_ ?_ ?_ |refine aT Tryz.func137 rfl ?_ ?_ ?_ ?_ |refine aT Tryz.func140 rfl ?_ ?_ ?_ ?_ |refine aT Tryz.func138 rfl ?_ ?_ ?_ ?_ |refine aT Tryz.func150 rfl ?_ ?_ ?_ ?_ |fail)<;>intros
 exact⟨nn+2,nn+1,by omega,by omega,by omega,rfl,((((((S.junk bG bH).set (7,0) _ e4 rfl).new (9,t) _ bG bH).set (9,t) _ ah ah).new (8,t) _ bG bH).eq (by rw[aN]) rfl)⟩
set_option maxHeartbeats 4000000 in
theorem Ie {h:PT aj} {n nn:Nat} {d:Rl→Nat} {C:Rl→Option aj} {base th:Int} {N:List Int} {B:List Bool} {W:List Int} {L:List Value} {k s t ba:Nat} {x:Int} (S:St h nn d C) (E:wR d C base n N B) (M:dP d C W L k) (hk:k≤100000) (ht:0≤th∧th<64) (hn:n≤64) (hs:s<n) (hx:N[s]? = some x) (YN:0≤x∧x<100000) (hba:base+(s:Int)=ba) (hb:ba<W.length) (hw:W.length≤100000)
  (e8:C (8,t)=row [.iface 258 (pt (d (9,t)))]) (e9:C (9,t)=row [pt (d (5,0)),I6 th,I6 s,.func (.func 139) ⟨[pt (d (9,t))]⟩ ⟨[]⟩]):
  b9 Tryz.prog OP 57 [pt (d (8,t))] h nn fun r h' n'=>∃ g,nn≤g∧g<n'∧r=dY [U8 13,.bool true]∧St h' n' (upd d rL g) (upd (upd (bM (upd C (6,0) (row ((N.set s (x+1)).map (.int .u64)))) (d rW) g (W.set ba (x+1)) (L++bI th ba 2 W[ba] (x+1) false) (k+1)) (7,0) (row ((B.set s false).map .bool))) (9,t) (row [pt (d (5,0)),I6 th,I6 s,.nilFunc])):=by
 obtain⟨e1,e2,e3,e4,e5,e6⟩:=E
 have g2:=S.at e2
 have g3:=S.at e3
 have g4:=S.at e4
 have g8:=S.at e8
 have g9:=S.at e9
 have d1:=S.df e2 e3 (by simp)
 have d2:=S.df e2 e4 (by simp)
 have d3:=S.df e2 e9 (by simp)
 have d4:=S.df e3 e4 (by simp)
 have d5:=S.df e3 e9 (by simp)
 have d6:=S.df e4 e9 (by simp)
 obtain⟨t1,t2⟩:=ht
 have q1:(N.map (Value.int .u64))[s]? = some (.int .u64 x):=by rw[List.getElem?_map,hx];rfl
 have q2:((N.set s (x+1)).map (Value.int .u64))[s]? = some (.int .u64 (x+1)):=by rw[List.getElem?_map,List.getElem?_set_self (by omega)];rfl
 have q3:(N.map (Value.int .u64)).set s (.int .u64 (x+1))=(N.set s (x+1)).map (.int .u64):=by rw[List.map_set]
 have s1:(s:Int)<n:=by omega
 clear e1
 refine aC (N:=13) Tryz.func57 rfl rfl fun z hP hO hro hN hQ=>?_
 repeat' first |simp(disch:=first |omega |assumption) only[go_sem, *] | (apply xs<;>intro _)<;>try omega | ((with_reducible refine bR 1 ?_);refine dz 31 1 w139_1 ?_) | ((with_reducible refine bR 1 ?_);refine dz 34 1 w136_1 ?_) |refine fun (_ _:List Nat)=>?_ | (first |refine aT Tryz.func200 rfl ?_ ?_ ?_ ?_ |refine aT Tryz.func139 rfl ?_ ?_ ?_ ?_ |refine aT Tryz.func136 rfl ?_ ?_ ?_ ?_ |fail)<;>intros
 have M':dP d (upd C (6,0) (row ((N.set s (x+1)).map (.int .u64)))) W L k:=⟨by rw[au (by decide)];exact M.mem,by rw[au (by decide)];exact M.words,M.log.imp id fun q=>⟨q.1,by rw[au (by decide)];exact q.2⟩,M.len⟩
 refine eJ (kG (x:=x+1) qO (S.set (6,0) _ e3 rfl) M' hk ⟨t1,t2⟩ (a:=ba) hb) (by simp only[*]) (by simp only[*]) (by simp only[go_sem, *]) (by simp only[go_sem, *]) ?_
 rintro r h2 n2 ⟨g,m_,gx,rfl,S2⟩
 have f2:=S2.iZ (a:=5) (b:=0) (by decide) (by rw[au (by decide)];exact e2)
 have f4:=S2.iZ (a:=7) (b:=0) (by decide) (by rw[au (by decide)];exact e4)
 have f9:=S2.iZ (a:=9) (b:=t) (by decide) (by rw[au (by decide)];exact e9)
 have q4:(B.map Value.bool).set s (.bool false)=(B.set s false).map .bool:=by rw[List.map_set]
 obtain⟨b0,hb0⟩:∃ b0,(B.map Value.bool)[s]? = some (.bool b0):=⟨B[s]'(by omega),by rw[List.getElem?_map,List.getElem?_eq_getElem (by omega)];rfl⟩
 clear g2 g3 g4 g8 g9
 repeat' first |simp(disch:=first |omega |assumption) only[go_sem, *] | (apply xs<;>intro _)<;>try omega | ((with_reducible refine bR 2 ?_);refine dz 31 2 w139_2 ?_) |refine fun (_ _:List Nat)=>?_
 exact⟨g,m_,gx,(S2.set (7,0) _ (by rw[aG (by decide),au (by decide)];exact e4) (au (by decide))).set (9,t) _ (by rw[au (by decide),aG (by decide),au (by decide)];exact e9) (au (by simp))⟩
set_option maxHeartbeats 4000000 in
theorem LY {h:PT aj} {n nn:Nat} {d:Rl→Nat} {C:Rl→Option aj} {base th:Int} {N:List Int} {B:List Bool} {W:List Int} {L:List Value} {k s ba:Nat} {x:Int} (S:St h nn d C) (E:wR d C base n N B) (M:dP d C W L k) (hk:k≤100000) (ht:0≤th∧th<64) (hn:n≤64) (hs:s<n) (hx:N[s]? = some x) (YN:0≤x∧x<100000) (ho:x.tmod 2=1) (hba:base+(s:Int)=ba) (hb:ba<W.length) (hw:W.length≤100000):
  b9 Tryz.prog OP 60 [pt (d (4,0)),I6 th,I6 s] h nn fun r h' n'=>∃ g,nn≤g∧g<n'∧r=dY [U8 13,I6 0]∧St h' n' (upd d rL g) (bM (upd C (6,0) (row ((N.set s (x+1)).map (.int .u64)))) (d rW) g (W.set ba (x+1)) (L++bI th ba 2 W[ba] (x+1) false) (k+1)):=by
 obtain⟨e1,e2,e3,e4,e5,e6⟩:=E
 have g1:=S.at e1
 have g2:=S.at e2
 have g3:=S.at e3
 have d1:=S.df e2 e3 (by simp)
 have d2:=S.df e1 e3 (by simp)
 obtain⟨t1,t2⟩:=ht
 have q1:(N.map (Value.int .u64))[s]? = some (.int .u64 x):=by rw[List.getElem?_map,hx];rfl
 have q2:((N.set s (x+1)).map (Value.int .u64))[s]? = some (.int .u64 (x+1)):=by rw[List.getElem?_map,List.getElem?_set_self (by omega)];rfl
 have q3:(N.map (Value.int .u64)).set s (.int .u64 (x+1))=(N.set s (x+1)).map (.int .u64):=by rw[List.map_set]
 have s1:(s:Int)<n:=by omega
 have M':dP d (upd C (6,0) (row ((N.set s (x+1)).map (.int .u64)))) W L k:=⟨by rw[au (by decide)];exact M.mem,by rw[au (by decide)];exact M.words,M.log.imp id fun q=>⟨q.1,by rw[au (by decide)];exact q.2⟩,M.len⟩
 clear e1 e2 e4
 refine aC (N:=25) Tryz.func60 rfl rfl fun z hP hO hro hN hQ=>?_
 repeat' first |simp(disch:=first |omega |assumption) only[go_sem, *] | (apply xs<;>intro _)<;>try omega | ((with_reducible refine bR 1 ?_);refine dz 34 1 w136_1 ?_) |refine fun (_ _:List Nat)=>?_ | (first |refine aT Tryz.func77 rfl ?_ ?_ ?_ ?_ |refine aT Tryz.func133 rfl ?_ ?_ ?_ ?_ |refine aT Tryz.func137 rfl ?_ ?_ ?_ ?_ |refine aT Tryz.func140 rfl ?_ ?_ ?_ ?_ |refine aT Tryz.func138 rfl ?_ ?_ ?_ ?_ |refine aT Tryz.func136 rfl ?_ ?_ ?_ ?_ |fail)<;>intros
 refine eJ (kG (x:=x+1) qO (S.set (6,0) _ e3 rfl) M' hk ⟨t1,t2⟩ (a:=ba) hb) (by simp only[*]) (by simp only[*]) (by simp only[go_sem, *]) (by simp only[go_sem, *]) ?_
 rintro r h2 n2 ⟨g,m_,gx,rfl,S2⟩
 clear g1 g2 g3
 repeat' first |simp(disch:=first |omega |assumption) only[go_sem, *] | (apply xs<;>intro _)<;>try omega |refine fun (_ _:List Nat)=>?_
 exact⟨g,m_,gx,S2⟩
set_option maxHeartbeats 4000000 in
theorem LZ {h:PT aj} {n nn:Nat} {d:Rl→Nat} {C:Rl→Option aj} {base th set:Int} {N:List Int} {B:List Bool} {t:Nat} (S:St h nn d C) (E:wR d C base n N B) (ht:0≤th∧th<64) (dr:set≠0):
  b9 Tryz.prog OP 71 [pt (d (4,0)),I6 th,U6 set] h nn fun r h' n'=>∃ p q,nn≤q∧q<p∧p<n'∧r=dY [pt p,I6 0]∧St h' n' (upd (upd d (11,t) q) (10,t) p) (upd (upd C (11,t) (row [pt (d (5,0)),I6 th,I6 0,.func (.func 141) ⟨[pt q]⟩ ⟨[]⟩,U6 0])) (10,t) (row [.iface 261 (pt q)])):=by
 obtain⟨e1,e2,e3,e4,e5,e6⟩:=E
 have g1:=S.at e1
 have g2:=S.at e2
 have n1:=S.lt e1
 have n2:=S.lt e2
 obtain⟨t1,t2⟩:=ht
 clear e1 e2 e3 e4
 refine aC (N:=28) Tryz.func71 rfl rfl fun z hP hO hro hN hQ=>?_
 repeat' first |simp(disch:=first |omega |assumption) only[go_sem, *] | (apply xs<;>intro _)<;>try omega |refine fun (_ _:List Nat)=>?_ | (first |refine aT Tryz.func149 rfl ?_ ?_ ?_ ?_ |refine aT Tryz.func135 rfl ?_ ?_ ?_ ?_ |refine aT Tryz.func140 rfl ?_ ?_ ?_ ?_ |refine aT Tryz.func151 rfl ?_ ?_ ?_ ?_ |fail)<;>intros
 exact⟨nn+2,nn+1,by omega,by omega,by omega,rfl,((((S.junk bG bH).new (11,t) _ bG bH).set (11,t) _ ah ah).new (10,t) _ bG bH).eq (by rw[aN]) rfl⟩
end Go.Proofs.YtbceiadaihphaaaGreat
namespace Go.Proofs.YtbceiadaihphaaaGreat
open Go.Am
structure FW where
 slot:Nat
 again:Bool
 first:Int
 ended:Bool
def FW.next (x:FW) (n:Nat):FW:=⟨x.slot+1,false,x.first,decide (x.slot+1=n)⟩
def FW.step (x:FW) (n:Nat) (w:Int):FW:=if x.again=true then (if w=x.first then x else x.next n) else (if w.tmod 2=0 then x.next n else ⟨x.slot,true,w,false⟩)
def gy (x:FW) (e q:Nat) (th:Int):List Value:=[pt e,I6 th,I6 x.slot,if x.ended=true then .nilFunc else .func (.func (if x.again=true then 144 else 141)) ⟨[pt q]⟩ ⟨[]⟩,U6 x.first]
set_option maxRecDepth 100000 in
set_option maxHeartbeats 8000000 in
theorem Ig {h:PT aj} {n nn:Nat} {d:Rl→Nat} {C:Rl→Option aj} {base th:Int} {N:List Int} {B:List Bool} {W:List Int} {L:List Value} {k t ba:Nat} {w:Int} {x:FW} (S:St h nn d C) (E:wR d C base n N B) (M:dP d C W L k) (hk:k≤100000) (ht:0≤th∧th<64) (hn:n≤64) (hs:x.slot<n) (hba:base+(x.slot:Int)=ba) (hb:ba<W.length) (hw:W.length≤100000) (hW:W[ba]=w) (xT:0≤w∧w<18446744073709551616) (hx:x.ended=false)
  (jD:C (10,t)=row [.iface 261 (pt (d (11,t)))]) (cL:C (11,t)=row (gy x (d (5,0)) (d (11,t)) th)):
  b9 Tryz.prog OP 59 [pt (d (10,t))] h nn fun r h' n'=>∃ g,nn≤g∧g<n'∧r=dY [U8 17,.bool (x.step n w).ended]∧St h' n' (upd d rL g) (upd (bM C (d rW) g W (L++bI th ba 1 w w false) (k+1)) (11,t) (row (gy (x.step n w) (d (5,0)) (d (11,t)) th))):=by
 obtain⟨sl,ag,fi,en⟩:=x
 simp only at hs hba hx
 subst hx
 obtain⟨e1,e2,e3,e4,e5,e6⟩:=E
 have g2:=S.at e2
 have n_:=S.at jD
 have iw:=S.at cL
 have d1:=S.df e2 cL (by simp)
 obtain⟨t1,t2⟩:=ht
 have s1:(sl:Int)<n:=by omega
 clear e1
 refine aC (N:=13) Tryz.func59 rfl rfl fun z hP hO hro hN hQ=>?_
 have eA:∀ g,bM C (d rW) g W (L++bI th ba 1 w w false) (k+1) (11,t)=C (11,t):=fun g=>aG (by decide)
 have eD:∀ g,upd d rL g (11,t)=d (11,t):=fun g=>au (by decide)
 cases ag
 ·simp only[gy,Bool.false_eq_true,if_false] at iw
  repeat' first |simp(disch:=first |omega |assumption) only[go_sem, *] | (apply xs<;>intro _)<;>try omega | ((with_reducible refine bR 3 ?_);refine dz 53 3 w202_3 ?_) |refine fun (_ _:List Nat)=>?_ | (first |refine aT Tryz.func202 rfl ?_ ?_ ?_ ?_ |fail)<;>intros
  refine eJ (lX qO S M hk ⟨t1,t2⟩ hb) (by simp only[*]) (by simp only[*]) (by simp only[go_sem, *]) (by simp only[go_sem, *]) ?_
  rintro r h2 n2 ⟨g,m_,gx,rfl,S2⟩
  rw[hW] at S2 ⊢
  have f2:=S2.iZ (a:=5) (b:=0) (by decide) e2
  have f11:=S2.iZ (a:=11) (b:=t) (by decide) cL
  simp only[gy,Bool.false_eq_true,if_false] at f11
  clear g2 n_ iw
  by_cases c1:w.tmod 2=0
  ·by_cases c2:(sl:Int)+1=n
   ·have es:FW.step ⟨sl,false,fi,false⟩ n w=⟨sl+1,false,fi,true⟩:=by simp[FW.step,FW.next,c1,show sl+1=n by omega]
    have er:gy ⟨sl+1,false,fi,true⟩ (d (5,0)) (d (11,t)) th=[pt (d (5,0)),I6 th,I6 n,.nilFunc,U6 fi]:=by simp only[gy,if_true];rw[show ((sl+1:Nat):Int)=n by omega]
    rw[es,er] at hQ
    repeat' first |simp(disch:=first |omega |assumption) only[go_sem, *] | (apply xs<;>intro _)<;>try omega | ((with_reducible refine bR 5 ?_);refine dz 53 5 w202_5 ?_) | ((with_reducible refine bR 2 ?_);refine dz 30 2 w143_2 ?_) |refine fun (_ _:List Nat)=>?_ | (first |refine aT Tryz.func141 rfl ?_ ?_ ?_ ?_ |refine aT Tryz.func143 rfl ?_ ?_ ?_ ?_ |fail)<;>intros
    exact⟨g,m_,gx,(((S2.set (11,t) _ ((eA g).trans cL) (eD g)).set (11,t) _ ah (eD g)).set (11,t) _ ah (eD g)).eq (by rw[aN,aN]) rfl⟩
   ·have es:FW.step ⟨sl,false,fi,false⟩ n w=⟨sl+1,false,fi,false⟩:=by simp[FW.step,FW.next,c1,show ¬sl+1=n by omega]
    have er:gy ⟨sl+1,false,fi,false⟩ (d (5,0)) (d (11,t)) th=[pt (d (5,0)),I6 th,I6 ((sl:Int)+1),.func (.func 141) ⟨[pt (d (11,t))]⟩ ⟨[]⟩,U6 fi]:=by simp only[gy,Bool.false_eq_true,if_false];rw[show ((sl+1:Nat):Int)=(sl:Int)+1 by omega]
    rw[es,er] at hQ
    repeat' first |simp(disch:=first |omega |assumption) only[go_sem, *] | (apply xs<;>intro _)<;>try omega | ((with_reducible refine bR 5 ?_);refine dz 53 5 w202_5 ?_) | ((with_reducible refine bR 2 ?_);refine dz 30 2 w143_2 ?_) |refine fun (_ _:List Nat)=>?_ | (first |refine aT Tryz.func141 rfl ?_ ?_ ?_ ?_ |refine aT Tryz.func143 rfl ?_ ?_ ?_ ?_ |fail)<;>intros
    exact⟨g,m_,gx,((S2.set (11,t) _ ((eA g).trans cL) (eD g)).set (11,t) _ ah (eD g)).eq (by rw[aN]) rfl⟩
  ·have es:FW.step ⟨sl,false,fi,false⟩ n w=⟨sl,true,w,false⟩:=by simp[FW.step,c1]
   have er:gy ⟨sl,true,w,false⟩ (d (5,0)) (d (11,t)) th=[pt (d (5,0)),I6 th,I6 sl,.func (.func 144) ⟨[pt (d (11,t))]⟩ ⟨[]⟩,U6 w]:=by simp only[gy,Bool.false_eq_true,if_false,if_true]
   rw[es,er] at hQ
   repeat' first |simp(disch:=first |omega |assumption) only[go_sem, *] | (apply xs<;>intro _)<;>try omega | ((with_reducible refine bR 5 ?_);refine dz 53 5 w202_5 ?_) |refine fun (_ _:List Nat)=>?_ | (first |refine aT Tryz.func141 rfl ?_ ?_ ?_ ?_ |fail)<;>intros
   exact⟨g,m_,gx,((S2.set (11,t) _ ((eA g).trans cL) (eD g)).set (11,t) _ ah (eD g)).eq (by rw[aN]) rfl⟩
 ·simp only[gy,Bool.false_eq_true,if_false,if_true] at iw
  repeat' first |simp(disch:=first |omega |assumption) only[go_sem, *] | (apply xs<;>intro _)<;>try omega | ((with_reducible refine bR 3 ?_);refine dz 53 3 w202_3 ?_) |refine fun (_ _:List Nat)=>?_ | (first |refine aT Tryz.func202 rfl ?_ ?_ ?_ ?_ |fail)<;>intros
  refine eJ (lX qO S M hk ⟨t1,t2⟩ hb) (by simp only[*]) (by simp only[*]) (by simp only[go_sem, *]) (by simp only[go_sem, *]) ?_
  rintro r h2 n2 ⟨g,m_,gx,rfl,S2⟩
  rw[hW] at S2 ⊢
  have f2:=S2.iZ (a:=5) (b:=0) (by decide) e2
  have f11:=S2.iZ (a:=11) (b:=t) (by decide) cL
  simp only[gy,Bool.false_eq_true,if_false,if_true] at f11
  clear g2 n_ iw
  by_cases c1:w=fi
  ·subst c1
   have es:FW.step ⟨sl,true,w,false⟩ n w=⟨sl,true,w,false⟩:=by simp[FW.step]
   rw[es] at hQ
   repeat' first |simp(disch:=first |omega |assumption) only[go_sem, *] | (apply xs<;>intro _)<;>try omega | ((with_reducible refine bR 5 ?_);refine dz 53 5 w202_5 ?_) |refine fun (_ _:List Nat)=>?_ | (first |refine aT Tryz.func144 rfl ?_ ?_ ?_ ?_ |fail)<;>intros
   exact⟨g,m_,gx,S2.eq (sn ((eA g).trans cL)).symm rfl⟩
  ·by_cases c2:(sl:Int)+1=n
   ·have es:FW.step ⟨sl,true,fi,false⟩ n w=⟨sl+1,false,fi,true⟩:=by simp[FW.step,FW.next,c1,show sl+1=n by omega]
    have er:gy ⟨sl+1,false,fi,true⟩ (d (5,0)) (d (11,t)) th=[pt (d (5,0)),I6 th,I6 n,.nilFunc,U6 fi]:=by simp only[gy,if_true];rw[show ((sl+1:Nat):Int)=n by omega]
    rw[es,er] at hQ
    repeat' first |simp(disch:=first |omega |assumption) only[go_sem, *] | (apply xs<;>intro _)<;>try omega | ((with_reducible refine bR 5 ?_);refine dz 53 5 w202_5 ?_) | ((with_reducible refine bR 2 ?_);refine dz 30 2 w143_2 ?_) |refine fun (_ _:List Nat)=>?_ | (first |refine aT Tryz.func144 rfl ?_ ?_ ?_ ?_ |refine aT Tryz.func143 rfl ?_ ?_ ?_ ?_ |fail)<;>intros
    exact⟨g,m_,gx,(((S2.set (11,t) _ ((eA g).trans cL) (eD g)).set (11,t) _ ah (eD g)).set (11,t) _ ah (eD g)).eq (by rw[aN,aN]) rfl⟩
   ·have es:FW.step ⟨sl,true,fi,false⟩ n w=⟨sl+1,false,fi,false⟩:=by simp[FW.step,FW.next,c1,show ¬sl+1=n by omega]
    have er:gy ⟨sl+1,false,fi,false⟩ (d (5,0)) (d (11,t)) th=[pt (d (5,0)),I6 th,I6 ((sl:Int)+1),.func (.func 141) ⟨[pt (d (11,t))]⟩ ⟨[]⟩,U6 fi]:=by simp only[gy,Bool.false_eq_true,if_false];rw[show ((sl+1:Nat):Int)=(sl:Int)+1 by omega]
    rw[es,er] at hQ
    repeat' first |simp(disch:=first |omega |assumption) only[go_sem, *] | (apply xs<;>intro _)<;>try omega | ((with_reducible refine bR 5 ?_);refine dz 53 5 w202_5 ?_) | ((with_reducible refine bR 2 ?_);refine dz 30 2 w143_2 ?_) |refine fun (_ _:List Nat)=>?_ | (first |refine aT Tryz.func144 rfl ?_ ?_ ?_ ?_ |refine aT Tryz.func143 rfl ?_ ?_ ?_ ?_ |fail)<;>intros
    exact⟨g,m_,gx,((S2.set (11,t) _ ((eA g).trans cL) (eD g)).set (11,t) _ ah (eD g)).eq (by rw[aN]) rfl⟩
end Go.Proofs.YtbceiadaihphaaaGreat
