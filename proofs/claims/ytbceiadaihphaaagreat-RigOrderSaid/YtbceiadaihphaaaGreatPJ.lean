/-
  A part of the proof: contracts of inner functions.
-/
import Derived.Test.YtbceiadaihphaaaGreatPG
set_option linter.unusedVariables false
set_option linter.unusedSimpArgs false
namespace Go.Proofs.YtbceiadaihphaaaGreat
open Go.Am
def Ot (p:Int×Bool):List Value:=[.int .u64 p.1,.bool p.2]
def uU (P:List (Int×Bool)):List Value:=P.flatMap Ot
theorem eE (p:Int×Bool) (P:List (Int×Bool)):uU (p::P) = .int .u64 p.1 :: .bool p.2::uU P:=by simp[uU,Ot]
theorem gN:∀ P:List (Int×Bool),(uU P).length=P.length*2
 | []=>rfl
 |p::P=>by rw[eE,List.length_cons,List.length_cons,gN P,List.length_cons];omega
theorem mT:∀ (P:List (Int×Bool)) (s:Nat) (x:Int) (b:Bool),P[s]? = some (x,b)→(uU P)[s*2]? = some (.int .u64 x)∧(uU P)[s*2+1]? = some (.bool b)
 | [],s,x,b,h=>by simp at h
 |p::P,0,x,b,h=>by simp at h;subst h;rw[eE];exact⟨rfl,rfl⟩
 |p::P,s+1,x,b,h=>by
  have:=mT P s x b (by simpa using h)
  rw[eE,show (s+1)*2=s*2+1+1 by omega]
  exact⟨by simpa using this.1,by simpa using this.2⟩
theorem sy:∀ (P:List (Int×Bool)) (s:Nat) (x y:Int) (b:Bool),P[s]? = some (x,b)→(uU P).set (s*2) (.int .u64 y)=uU (P.set s (y,b))
 | [],s,x,y,b,h=>by simp at h
 |p::P,0,x,y,b,h=>by simp at h;subst h;rw[eE];simp[eE]
 |p::P,s+1,x,y,b,h=>by
  rw[eE,show (s+1)*2=s*2+1+1 by omega,List.set_cons_succ,List.set_cons_succ,sy P s x y b (by simpa using h),List.set_cons_succ,eE]
theorem sA:∀ (P:List (Int×Bool)) (s:Nat) (x:Int) (b c:Bool),P[s]? = some (x,b)→(uU P).set (s*2+1) (.bool c)=uU (P.set s (x,c))
 | [],s,x,b,c,h=>by simp at h
 |p::P,0,x,b,c,h=>by simp at h;subst h;rw[eE];simp[eE]
 |p::P,s+1,x,b,c,h=>by
  rw[eE,show (s+1)*2+1=s*2+1+1+1 by omega,List.set_cons_succ,List.set_cons_succ,sA P s x b c (by simpa using h),List.set_cons_succ,eE]
structure qD (d:Rl→Nat) (C:Rl→Option aj) (base:Int) (n:Nat) (P:List (Int×Bool)):Prop where
 uT:C (4,0)=row [.iface 153 (.agg ⟨[.iface 147 (pt (d (5,0)))]⟩),U8 2,I6 n]
 xM:C (5,0)=row [pt (d rM),.slice (some ⟨d (6,0),0,none⟩) n n,.func (.func 80) ⟨[]⟩ ⟨[pt (d (7,0))]⟩]
 slots:C (6,0)=row (uU P)
 base:C (7,0)=row [I6 base]
 len:P.length=n
set_option maxHeartbeats 4000000 in
theorem Ih {h:PT aj} {n nn:Nat} {d:Rl→Nat} {C:Rl→Option aj} {base th v:Int} {P:List (Int×Bool)} {s t:Nat} {x:Int} (S:St h nn d C) (E:qD d C base n P) (ht:0≤th∧th<64) (hn:n≤64) (hs:s<n) (hv:0≤v∧v<64) (hx:P[s]? = some (x,false)) (he:x.tmod 2=0):
  b9 Tryz.prog OP 69 [pt (d (4,0)),I6 th,I6 s,I6 v] h nn fun r h' n'=>∃ p q,nn≤q∧q<p∧p<n'∧r=dY [pt p,I6 0]∧St h' n' (upd (upd d (9,t) q) (8,t) p) (upd (upd (upd C (6,0) (row (uU (P.set s (x,true))))) (9,t) (row [pt (d (5,0)),I6 th,I6 s,I6 v,I6 0])) (8,t) (row [.iface 274 (pt q)])):=by
 obtain⟨e1,e2,e3,e4,e5⟩:=E
 have g1:=S.at e1
 have g2:=S.at e2
 have g3:=S.at e3
 have n1:=S.lt e1
 have n2:=S.lt e2
 have n3:=S.lt e3
 have d1:=S.df e2 e3 (by simp)
 obtain⟨t1,t2⟩:=ht
 obtain⟨v1,v2⟩:=hv
 obtain⟨q1,q2⟩:=mT P s x false hx
 have q3:=sA P s x false true hx
 have q4:=gN P
 have s1:(s:Int)<n:=by omega
 clear e1 e2 e4
 refine aC (N:=37) Tryz.func69 rfl rfl fun z hP hO hro hN hQ=>?_
 repeat' first |simp(disch:=first |omega |assumption) only[go_sem, *] | (apply xs<;>intro _)<;>try omega |refine fun (_ _:List Nat)=>?_ | (first |refine aT Tryz.func77 rfl ?_ ?_ ?_ ?_ |refine aT Tryz.func159 rfl ?_ ?_ ?_ ?_ |refine aT Tryz.func152 rfl ?_ ?_ ?_ ?_ |refine aT Tryz.func157 rfl ?_ ?_ ?_ ?_ |refine aT Tryz.func158 rfl ?_ ?_ ?_ ?_ |refine aT Tryz.func161 rfl ?_ ?_ ?_ ?_ |fail)<;>intros
 exact⟨nn+2,nn+1,by omega,by omega,by omega,rfl,((((S.junk bG bH).set (6,0) _ e3 rfl).new (9,t) _ bG bH).new (8,t) _ bG bH)⟩
end Go.Proofs.YtbceiadaihphaaaGreat
namespace Go.Proofs.YtbceiadaihphaaaGreat
open Go.Am
theorem _root_.Go.Am.St.cg {h:PT aj} {n:Nat} {d:Rl→Nat} {C:Rl→Option aj} (S:St h n d C) {i m:Nat} {A B:Option aj} (hi:n≤i) (hm:i<m):St ((h.set i A).set i B) m d C:=by
 refine⟨fun s D q=>?_,S.inj,(S.wf.set (by omega) hm).set (Nat.le_refl _) hm⟩
 have:=S.lt q
 rw[bO (by omega),bO (by omega)];exact S.get s D q
set_option maxRecDepth 100000 in
set_option maxHeartbeats 4000000 in
theorem L0 {h:PT aj} {n nn:Nat} {d:Rl→Nat} {C:Rl→Option aj} {base th v:Int} {P:List (Int×Bool)} {W:List Int} {L:List Value} {k s t ba:Nat} (S:St h nn d C) (E:qD d C base n P) (M:dP d C W L k) (hk:k≤100000) (ht:0≤th∧th<64) (hn:n≤64) (hs:s<n) (hv:0≤v∧v<64) (hba:base+2*(s:Int)+1=ba) (hb0:0≤base) (hb:ba<W.length) (hw:W.length≤100000)
  (e8:C (8,t)=row [.iface 274 (pt (d (9,t)))]) (e9:C (9,t)=row [pt (d (5,0)),I6 th,I6 s,I6 v,I6 0]):
  b9 Tryz.prog OP 57 [pt (d (8,t))] h nn fun r h' n'=>∃ g,nn≤g∧g<n'∧r=dY [U8 14,.bool false]∧St h' n' (upd d rL g) (upd (bM C (d rW) g (W.set ba v) (L++bI th ba 2 W[ba] v false) (k+1)) (9,t) (row [pt (d (5,0)),I6 th,I6 s,I6 v,I6 1])):=by
 obtain⟨e1,e2,e3,e4,e5⟩:=E
 have g2:=S.at e2
 have g7:=S.at e4
 have g8:=S.at e8
 have g9:=S.at e9
 have n2:=S.lt e2
 have n7:=S.lt e4
 have n8:=S.lt e8
 have n9:=S.lt e9
 obtain⟨t1,t2⟩:=ht
 obtain⟨v1,v2⟩:=hv
 have s1:(s:Int)<n:=by omega
 have eA:∀ g W' L',bM C (d rW) g W' L' (k+1) (9,t)=C (9,t):=fun g W' L'=>aG (by decide)
 clear e1 e3 e4
 refine aC (N:=13) Tryz.func57 rfl rfl fun z hP hO hro hN hQ=>?_
 repeat' first |simp(disch:=first |omega |assumption) only[go_sem, *,ET] | (apply xs<;>intro _)<;>try omega | ((with_reducible refine bR 1 ?_);refine dz 33 1 w206_1 ?_) |refine fun (_ _:List Nat)=>?_ | (first |refine aT Tryz.func204 rfl ?_ ?_ ?_ ?_ |refine aT Tryz.func205 rfl ?_ ?_ ?_ ?_ |refine aT Tryz.func206 rfl ?_ ?_ ?_ ?_ |fail)<;>intros
 refine eJ (kG (x:=v) qO ((S.cg bG bH).cg bG bH) M hk ⟨t1,t2⟩ (a:=ba) hb) (by simp only[*]) (by simp only[*]) (by simp only[go_sem, *]) (by simp only[go_sem, *]) ?_
 rintro r h2 n2 ⟨g,m_,gx,rfl,S2⟩
 have f9:=S2.iZ (a:=9) (b:=t) (by decide) e9
 clear g2 g7 g8 g9
 repeat' first |simp(disch:=first |omega |assumption) only[go_sem, *] | (apply xs<;>intro _)<;>try omega | ((with_reducible refine bR 6 ?_);refine dz 36 6 w204_6 ?_) |refine fun (_ _:List Nat)=>?_
 exact⟨g,by omega,gx,S2.set (9,t) _ ((eA _ _ _).trans e9) (au (by decide))⟩
set_option maxRecDepth 100000 in
set_option maxHeartbeats 4000000 in
theorem Rp {h:PT aj} {n nn:Nat} {d:Rl→Nat} {C:Rl→Option aj} {base th v:Int} {P:List (Int×Bool)} {W:List Int} {L:List Value} {k s t ba:Nat} {x:Int} {b0:Bool} (S:St h nn d C) (E:qD d C base n P) (M:dP d C W L k) (hk:k≤100000) (ht:0≤th∧th<64) (hn:n≤64) (hs:s<n) (hx:P[s]? = some (x,b0)) (YN:0≤x∧x<100000) (hba:base+2*(s:Int)=ba) (hb0:0≤base) (hb:ba<W.length) (hw:W.length≤100000)
  (e8:C (8,t)=row [.iface 274 (pt (d (9,t)))]) (e9:C (9,t)=row [pt (d (5,0)),I6 th,I6 s,I6 v,I6 1]):
  b9 Tryz.prog OP 57 [pt (d (8,t))] h nn fun r h' n'=>∃ g,nn≤g∧g<n'∧r=dY [U8 13,.bool true]∧St h' n' (upd d rL g) (upd (upd (bM (upd C (6,0) (row (uU (P.set s (x+1,b0))))) (d rW) g (W.set ba (x+1)) (L++bI th ba 2 W[ba] (x+1) false) (k+1)) (6,0) (row (uU (P.set s (x+1,false))))) (9,t) (row [pt (d (5,0)),I6 th,I6 s,I6 v,I6 2])):=by
 obtain⟨e1,e2,e3,e4,e5⟩:=E
 have g2:=S.at e2
 have g3:=S.at e3
 have g7:=S.at e4
 have g8:=S.at e8
 have g9:=S.at e9
 have n2:=S.lt e2
 have n3:=S.lt e3
 have n7:=S.lt e4
 have n8:=S.lt e8
 have n9:=S.lt e9
 have d1:=S.df e2 e3 (by simp)
 have d2:=S.df e3 e4 (by simp)
 have d3:=S.df e3 e9 (by simp)
 have d4:=S.df e2 e9 (by simp)
 obtain⟨t1,t2⟩:=ht
 have s1:(s:Int)<n:=by omega
 obtain⟨q1,q2⟩:=mT P s x b0 hx
 have q3:=sy P s x (x+1) b0 hx
 have xK:(P.set s (x+1,b0))[s]? = some (x+1,b0):=List.getElem?_set_self (by omega)
 obtain⟨q4,q5⟩:=mT _ s _ _ xK
 have q6:=sA _ s _ _ false xK
 rw[List.set_set] at q6
 have q7:=gN (P.set s (x+1,b0))
 have q8:=gN P
 rw[List.length_set] at q7
 have eA:∀ g C W' L',bM C (d rW) g W' L' (k+1) (9,t)=C (9,t):=fun g C W' L'=>aG (by decide)
 have eB:∀ g C W' L',bM C (d rW) g W' L' (k+1) (6,0)=C (6,0):=fun g C W' L'=>aG (by decide)
 have M':dP d (upd C (6,0) (row (uU (P.set s (x+1,b0))))) W L k:=⟨by rw[au (by decide)];exact M.mem,by rw[au (by decide)];exact M.words,M.log.imp id fun q=>⟨q.1,by rw[au (by decide)];exact q.2⟩,M.len⟩
 clear e1
 refine aC (N:=13) Tryz.func57 rfl rfl fun z hP hO hro hN hQ=>?_
 repeat' first |simp(disch:=first |omega |assumption) only[go_sem, *,ET] | (apply xs<;>intro _)<;>try omega | ((with_reducible refine bR 1 ?_);refine dz 29 1 w207_1 ?_) | ((with_reducible refine bR 1 ?_);refine dz 37 1 w156_1 ?_) |refine fun (_ _:List Nat)=>?_ | (first |refine aT Tryz.func204 rfl ?_ ?_ ?_ ?_ |refine aT Tryz.func205 rfl ?_ ?_ ?_ ?_ |refine aT Tryz.func207 rfl ?_ ?_ ?_ ?_ |refine aT Tryz.func156 rfl ?_ ?_ ?_ ?_ |fail)<;>intros
 refine eJ (kG (x:=x+1) qO (((S.cg bG bH).cg bG bH).set (6,0) _ e3 rfl) M' hk ⟨t1,t2⟩ (a:=ba) hb) (by simp only[*]) (by simp only[*]) (by simp only[go_sem, *]) (by simp only[go_sem, *]) ?_
 rintro r h2 n2 ⟨g,m_,gx,rfl,S2⟩
 have f9:=S2.iZ (a:=9) (b:=t) (by decide) (by rw[au (by decide)];exact e9)
 have f5:=S2.iZ (a:=5) (b:=0) (by decide) (by rw[au (by decide)];exact e2)
 have f6:=S2.iZ (a:=6) (b:=0) (by decide) ah
 clear g2 g3 g7 g8 g9
 repeat' first |simp(disch:=first |omega |assumption) only[go_sem, *] | (apply xs<;>intro _)<;>try omega | ((with_reducible refine bR 6 ?_);refine dz 36 6 w204_6 ?_) | ((with_reducible refine bR 2 ?_);refine dz 29 2 w207_2 ?_) |refine fun (_ _:List Nat)=>?_
 exact⟨g,by omega,gx,(S2.set (6,0) _ ((eB _ _ _ _).trans ah) (au (by decide))).set (9,t) _ (by rw[au (by decide),eA,au (by decide)];exact e9) (au (by decide))⟩
end Go.Proofs.YtbceiadaihphaaaGreat
namespace Go.Proofs.YtbceiadaihphaaaGreat
open Go.Am
set_option maxRecDepth 100000 in
set_option maxHeartbeats 4000000 in
theorem L2 {h:PT aj} {n nn:Nat} {d:Rl→Nat} {C:Rl→Option aj} {base th:Int} {P:List (Int×Bool)} {W:List Int} {L:List Value} {k s ba:Nat} {x:Int} {b0:Bool} (S:St h nn d C) (E:qD d C base n P) (M:dP d C W L k) (hk:k≤100000) (ht:0≤th∧th<64) (hn:n≤64) (hs:s<n) (hx:P[s]? = some (x,b0)) (YN:0≤x∧x<100000) (ho:x.tmod 2=1) (hba:base+2*(s:Int)=ba) (hb0:0≤base) (hb:ba<W.length) (hw:W.length≤100000):
  b9 Tryz.prog OP 60 [pt (d (4,0)),I6 th,I6 s] h nn fun r h' n'=>∃ g,nn≤g∧g<n'∧r=dY [U8 13,I6 0]∧St h' n' (upd d rL g) (bM (upd C (6,0) (row (uU (P.set s (x+1,b0))))) (d rW) g (W.set ba (x+1)) (L++bI th ba 2 W[ba] (x+1) false) (k+1)):=by
 obtain⟨e1,e2,e3,e4,e5⟩:=E
 have g1:=S.at e1
 have g2:=S.at e2
 have g3:=S.at e3
 have g7:=S.at e4
 have d1:=S.df e2 e3 (by simp)
 have d2:=S.df e3 e4 (by simp)
 obtain⟨t1,t2⟩:=ht
 have s1:(s:Int)<n:=by omega
 obtain⟨q1,q2⟩:=mT P s x b0 hx
 have q3:=sy P s x (x+1) b0 hx
 have xK:(P.set s (x+1,b0))[s]? = some (x+1,b0):=List.getElem?_set_self (by omega)
 obtain⟨q4,q5⟩:=mT _ s _ _ xK
 have q7:=gN (P.set s (x+1,b0))
 have q8:=gN P
 rw[List.length_set] at q7
 have M':dP d (upd C (6,0) (row (uU (P.set s (x+1,b0))))) W L k:=⟨by rw[au (by decide)];exact M.mem,by rw[au (by decide)];exact M.words,M.log.imp id fun q=>⟨q.1,by rw[au (by decide)];exact q.2⟩,M.len⟩
 clear e1 e2 e4
 refine aC (N:=25) Tryz.func60 rfl rfl fun z hP hO hro hN hQ=>?_
 repeat' first |simp(disch:=first |omega |assumption) only[go_sem, *,ET] | (apply xs<;>intro _)<;>try omega | ((with_reducible refine bR 1 ?_);refine dz 37 1 w156_1 ?_) |refine fun (_ _:List Nat)=>?_ | (first |refine aT Tryz.func77 rfl ?_ ?_ ?_ ?_ |refine aT Tryz.func153 rfl ?_ ?_ ?_ ?_ |refine aT Tryz.func157 rfl ?_ ?_ ?_ ?_ |refine aT Tryz.func158 rfl ?_ ?_ ?_ ?_ |refine aT Tryz.func156 rfl ?_ ?_ ?_ ?_ |fail)<;>intros
 refine eJ (kG (x:=x+1) qO (S.set (6,0) _ e3 rfl) M' hk ⟨t1,t2⟩ (a:=ba) hb) (by simp only[*]) (by simp only[*]) (by simp only[go_sem, *]) (by simp only[go_sem, *]) ?_
 rintro r h2 n2 ⟨g,m_,gx,rfl,S2⟩
 clear g1 g2 g3 g7
 repeat' first |simp(disch:=first |omega |assumption) only[go_sem, *] | (apply xs<;>intro _)<;>try omega |refine fun (_ _:List Nat)=>?_
 exact⟨g,m_,gx,S2⟩
set_option maxRecDepth 100000 in
set_option maxHeartbeats 4000000 in
theorem L3 {h:PT aj} {n nn:Nat} {d:Rl→Nat} {C:Rl→Option aj} {base th set:Int} {P:List (Int×Bool)} {t:Nat} (S:St h nn d C) (E:qD d C base n P) (ht:0≤th∧th<64) (dr:set≠0):
  b9 Tryz.prog OP 71 [pt (d (4,0)),I6 th,U6 set] h nn fun r h' n'=>∃ p q,nn≤q∧q<p∧p<n'∧r=dY [pt p,I6 0]∧St h' n' (upd (upd d (11,t) q) (10,t) p) (upd (upd C (11,t) (row [pt (d (5,0)),I6 th,U6 set,I6 0,U6 0,I6 0])) (10,t) (row [.iface 282 (pt q)])):=by
 obtain⟨e1,e2,e3,e4,e5⟩:=E
 have g1:=S.at e1
 have g2:=S.at e2
 have n1:=S.lt e1
 have n2:=S.lt e2
 obtain⟨t1,t2⟩:=ht
 clear e1 e2 e3 e4
 refine aC (N:=28) Tryz.func71 rfl rfl fun z hP hO hro hN hQ=>?_
 repeat' first |simp(disch:=first |omega |assumption) only[go_sem, *] | (apply xs<;>intro _)<;>try omega |refine fun (_ _:List Nat)=>?_ | (first |refine aT Tryz.func160 rfl ?_ ?_ ?_ ?_ |refine aT Tryz.func155 rfl ?_ ?_ ?_ ?_ |refine aT Tryz.func158 rfl ?_ ?_ ?_ ?_ |refine aT Tryz.func162 rfl ?_ ?_ ?_ ?_ |fail)<;>intros
 exact⟨nn+2,nn+1,by omega,by omega,by omega,rfl,((S.junk bG bH).new (11,t) _ bG bH).new (10,t) _ bG bH⟩
structure EW where
 slot:Nat
 seen:Int
 st:Nat
def EW.next (x:EW) (n:Nat):EW:=⟨x.slot+1,x.seen,if x.slot+1=n then 3 else 0⟩
def sB (v set:Int):Bool:=decide (0≤v∧v<64)&&decide (set.toNat.testBit v.toNat=true)
def EW.step (x:EW) (n:Nat) (set w:Int):EW:=
 if x.st=0 then (if w.tmod 2=1 then ⟨x.slot,w,1⟩ else (⟨x.slot,w,0⟩:EW).next n)
 else if x.st=1 then (if sB w set=true then ⟨x.slot,x.seen,2⟩ else x.next n)
 else (if w=x.seen then x else x.next n)
def eY (x:EW) (e:Nat) (th set:Int):List Value:=[pt e,I6 th,U6 set,I6 x.slot,U6 x.seen,I6 x.st]
set_option maxRecDepth 100000 in
set_option maxHeartbeats 8000000 in
theorem L4 {h:PT aj} {n nn:Nat} {d:Rl→Nat} {C:Rl→Option aj} {base th set:Int} {P:List (Int×Bool)} {W:List Int} {L:List Value} {k t ba:Nat} {w:Int} {x:EW} (S:St h nn d C) (E:qD d C base n P) (M:dP d C W L k) (hk:k≤100000) (ht:0≤th∧th<64) (hn:n≤64) (hs:x.slot<n) (hba:base+2*(x.slot:Int)=ba) (hb0:0≤base) (hb:ba<W.length) (hw:W.length≤100000) (hW:W[ba]=w) (xT:0≤w∧w<18446744073709551616) (hx:x.st=0)
  (jD:C (10,t)=row [.iface 282 (pt (d (11,t)))]) (cL:C (11,t)=row (eY x (d (5,0)) th set)):
  b9 Tryz.prog OP 59 [pt (d (10,t))] h nn fun r h' n'=>∃ g,nn≤g∧g<n'∧r=dY [U8 17,.bool (decide ((x.step n set w).st=3))]∧St h' n' (upd d rL g) (upd (bM C (d rW) g W (L++bI th ba 1 w w false) (k+1)) (11,t) (row (eY (x.step n set w) (d (5,0)) th set))):=by
 obtain⟨sl,se,st⟩:=x
 simp only at hs hba hx
 subst hx
 obtain⟨e1,e2,e3,e4,e5⟩:=E
 have g2:=S.at e2
 have g7:=S.at e4
 have n_:=S.at jD
 have iw:=S.at cL
 have n2:=S.lt e2
 have n7:=S.lt e4
 have EU:=S.lt jD
 have CS:=S.lt cL
 have d1:=S.df e2 cL (by simp)
 obtain⟨t1,t2⟩:=ht
 have s1:(sl:Int)<n:=by omega
 have eA:∀ g,bM C (d rW) g W (L++bI th ba 1 w w false) (k+1) (11,t)=C (11,t):=fun g=>aG (by decide)
 have eD:∀ g,upd d rL g (11,t)=d (11,t):=fun g=>au (by decide)
 clear e1
 simp only[eY] at iw
 refine aC (N:=13) Tryz.func59 rfl rfl fun z hP hO hro hN hQ=>?_
 repeat' first |simp(disch:=first |omega |assumption) only[go_sem, *,ET] | (apply xs<;>intro _)<;>try omega | ((with_reducible refine bR 1 ?_);refine dz 44 1 w211_1 ?_) |refine fun (_ _:List Nat)=>?_ | (first |refine aT Tryz.func209 rfl ?_ ?_ ?_ ?_ |refine aT Tryz.func211 rfl ?_ ?_ ?_ ?_ |fail)<;>intros
 refine eJ (lX qO (S.cg bG bH) M hk ⟨t1,t2⟩ hb) (by simp only[*]) (by simp only[*]) (by simp only[go_sem, *]) (by simp only[go_sem, *]) ?_
 rintro r h2 sC ⟨g,m_,gx,rfl,S2⟩
 rw[hW] at S2 ⊢
 have f2:=S2.iZ (a:=5) (b:=0) (by decide) e2
 have f11:=S2.iZ (a:=11) (b:=t) (by decide) cL
 simp only[eY] at f11
 clear g2 g7 n_ iw
 by_cases c1:w.tmod 2=1
 ·have es:EW.step ⟨sl,se,0⟩ n set w=⟨sl,w,1⟩:=by simp[EW.step,c1]
  rw[es] at hQ
  simp only[eY] at hQ
  repeat' first |simp(disch:=first |omega |assumption) only[go_sem, *] | (apply xs<;>intro _)<;>try omega | ((with_reducible refine bR 5 ?_);refine dz 29 5 w209_5 ?_) |refine fun (_ _:List Nat)=>?_
  exact⟨g,by omega,gx,((S2.set (11,t) _ ((eA g).trans cL) (eD g)).set (11,t) _ ah (eD g)).eq (by first | (rw[aN];done) | (rw[aN];rfl)) rfl⟩
 ·by_cases c2:(sl:Int)+1=n
  ·have es:EW.step ⟨sl,se,0⟩ n set w=⟨sl+1,w,3⟩:=by simp[EW.step,EW.next,c1,show sl+1=n by omega]
   have ec:((sl+1:Nat):Int)=n:=by omega
   rw[es] at hQ
   simp only[eY,ec] at hQ
   repeat' first |simp(disch:=first |omega |assumption) only[go_sem, *] | (apply xs<;>intro _)<;>try omega | ((with_reducible refine bR 5 ?_);refine dz 29 5 w209_5 ?_) | ((with_reducible refine bR 2 ?_);refine dz 28 2 w210_2 ?_) |refine fun (_ _:List Nat)=>?_ | (first |refine aT Tryz.func210 rfl ?_ ?_ ?_ ?_ |fail)<;>intros
   exact⟨g,by omega,gx,((((S2.set (11,t) _ ((eA g).trans cL) (eD g)).set (11,t) _ ah (eD g)).set (11,t) _ ah (eD g)).set (11,t) _ ah (eD g)).eq (by first | (rw[aN,aN,aN];done) | (rw[aN,aN,aN];rfl)) rfl⟩
  ·have es:EW.step ⟨sl,se,0⟩ n set w=⟨sl+1,w,0⟩:=by simp[EW.step,EW.next,c1,show ¬sl+1=n by omega]
   have ec:((sl+1:Nat):Int)=(sl:Int)+1:=by omega
   rw[es] at hQ
   simp only[eY,ec] at hQ
   repeat' first |simp(disch:=first |omega |assumption) only[go_sem, *] | (apply xs<;>intro _)<;>try omega | ((with_reducible refine bR 5 ?_);refine dz 29 5 w209_5 ?_) | ((with_reducible refine bR 2 ?_);refine dz 28 2 w210_2 ?_) |refine fun (_ _:List Nat)=>?_ | (first |refine aT Tryz.func210 rfl ?_ ?_ ?_ ?_ |fail)<;>intros
   exact⟨g,by omega,gx,(((S2.set (11,t) _ ((eA g).trans cL) (eD g)).set (11,t) _ ah (eD g)).set (11,t) _ ah (eD g)).eq (by first | (rw[aN,aN];done) | (rw[aN,aN];rfl)) rfl⟩
end Go.Proofs.YtbceiadaihphaaaGreat
