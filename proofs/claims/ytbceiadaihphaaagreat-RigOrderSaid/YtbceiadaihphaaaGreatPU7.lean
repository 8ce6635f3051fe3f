/-
  A part of the proof: contracts of inner functions.
-/
import Derived.Test.YtbceiadaihphaaaGreatPU3
import Derived.Test.YtbceiadaihphaaaGreatPJ
set_option linter.unusedVariables false
set_option linter.unusedSimpArgs false
namespace Go.Proofs.YtbceiadaihphaaaGreat
open Go.Am
set_option maxRecDepth 100000 in
set_option maxHeartbeats 8000000 in
theorem Iy {h:PT aj} {nb nn off len cap ba t k:Nat} {d:Rl→Nat} {C:Rl→Option aj} {base th b side:Int} {v1:Value} {W:List Int} {L:List Value} {Lf:List Int} (S:St h nn d C) (M:dP d C W L k) (hk:k≤100000) (e5:C (5,0)=row [pt (d rM),I6 base,I6 nb,v1]) (jD:C (10,t)=row [.iface 302 (pt (d (11,t)))]) (cL:C (11,t)=row (bV (d (5,0)) th (d (12,t)) off len cap (d (13,t)) side 20 189)) (k_:C (12,t)=row (Lf.map (.int .i64))) (hl:0<len) (hL:Lf[off]? = some b) (hb:0≤b∧b<16) (hb0:0≤base∧base<100000) (ht:0≤th∧th<64) (Ke:0≤side∧side<2) (hba:base+4*b+0=ba) (qE:ba<W.length) (hw:W.length≤100000) (hsc:C (20,0)=none):
  b9 Tryz.prog OP 59 [pt (d (10,t))] h nn fun r h' n'=>∃ g,nn≤g∧g<n'∧r=dY [U8 20,.bool false]∧St h' n' (upd d rL g) (upd (bM C (d rW) g (W.set ba (1-side)) (L++bI th ba 2 W[ba] (1-side) false) (k+1)) (11,t) (row (bV (d (5,0)) th (d (12,t)) off len cap (d (13,t)) side 19 191))):=by
 have g5:=S.at e5
 have n_:=S.at jD
 have iw:=S.at cL
 have uV:=S.at k_
 have n5:=S.lt e5
 have EU:=S.lt jD
 have CS:=S.lt cL
 have Ka:=S.lt k_
 have Kc:(Lf.map (Value.int .i64))[off]? = some (.int .i64 b):=by rw[List.getElem?_map,hL];rfl
 have kY:Nat.blt 0 len=true:=Nat.ble_eq_true_of_le hl
 obtain⟨t1,t2⟩:=ht
 obtain⟨b1,b2⟩:=hb
 obtain⟨b3,b4⟩:=hb0
 have b5:b<100:=by omega
 simp only[bV] at iw
 have Ms:=M.upd (a:=20) (b:=0) (i:=nn) (B:=row [U8 0,.nilFunc]) (by omega)
 clear e5 jD k_
 refine aC (N:=13) Tryz.func59 rfl rfl fun z hP hO hro hN hQ=>?_
 obtain⟨sd1,sd2⟩:=Ke
 by_cases cs:side=0
 ·subst cs
  have c3:(0:Int).tmod 2=0:=rfl
  repeat' first |simp(disch:=first |omega |assumption) only[go_sem, *,eX,oY] | (apply xs<;>intro _)<;>try omega | ((with_reducible refine bR 1 ?_);refine dz 25 1 w189_1 ?_) |refine fun (_ _:List Nat)=>?_ | (first |refine aT Tryz.func218 rfl ?_ ?_ ?_ ?_ |refine aT Tryz.func189 rfl ?_ ?_ ?_ ?_ |fail)<;>intros
  refine eJ (kG (x:=1) qO (S.new (20,0) _ bG bH) Ms hk ⟨t1,t2⟩ qE) (by simp only[*]) (by simp only[*]) (by simp only[go_sem, *]) (by simp only[go_sem, *]) ?_
  rintro r h2 sC ⟨g,m_,gx,rfl,S2⟩
  have f11:=S2.iZ (a:=11) (b:=t) (by decide) ((au (by decide)).trans cL)
  rw[au (by decide)] at f11
  have f20:=S2.iZ (a:=20) (b:=0) (by decide) ah
  rw[ah] at f20
  simp only[bV] at f11
  clear g5 n_ iw uV
  repeat' first |simp(disch:=first |omega |assumption) only[go_sem, *] | (apply xs<;>intro _)<;>try omega | ((with_reducible refine bR 5 ?_);refine dz 36 5 w218_5 ?_) |refine fun (_ _:List Nat)=>?_
  exact⟨g,by omega,gx,St.tq S2 hsc cL⟩
 ·have RC:side=1:=by omega
  subst RC
  have c3:(1:Int).tmod 2=1:=rfl
  repeat' first |simp(disch:=first |omega |assumption) only[go_sem, *,eX,oY] | (apply xs<;>intro _)<;>try omega | ((with_reducible refine bR 1 ?_);refine dz 25 1 w189_1 ?_) |refine fun (_ _:List Nat)=>?_ | (first |refine aT Tryz.func218 rfl ?_ ?_ ?_ ?_ |refine aT Tryz.func189 rfl ?_ ?_ ?_ ?_ |fail)<;>intros
  refine eJ (kG (x:=0) qO (S.new (20,0) _ bG bH) Ms hk ⟨t1,t2⟩ qE) (by simp only[*]) (by simp only[*]) (by simp only[go_sem, *]) (by simp only[go_sem, *]) ?_
  rintro r h2 sC ⟨g,m_,gx,rfl,S2⟩
  have f11:=S2.iZ (a:=11) (b:=t) (by decide) ((au (by decide)).trans cL)
  rw[au (by decide)] at f11
  have f20:=S2.iZ (a:=20) (b:=0) (by decide) ah
  rw[ah] at f20
  simp only[bV] at f11
  clear g5 n_ iw uV
  repeat' first |simp(disch:=first |omega |assumption) only[go_sem, *] | (apply xs<;>intro _)<;>try omega | ((with_reducible refine bR 5 ?_);refine dz 36 5 w218_5 ?_) |refine fun (_ _:List Nat)=>?_
  exact⟨g,by omega,gx,St.tq S2 hsc cL⟩
end Go.Proofs.YtbceiadaihphaaaGreat
namespace Go.Proofs.YtbceiadaihphaaaGreat
open Go.Am
theorem St.RD {h:PT aj} {n nn g t:Nat} {d:Rl→Nat} {C C':Rl→Option aj} {B Y Z A:aj} (S:St h n (upd (upd d (20,0) nn) rL g) C') (YX:C' (20,0)=some B) (cL:C' (11,t)=some A) (hC:∀ s,s≠(20,0)→C' s=C s) (hsc:C (20,0)=none):St ((h.set nn (some Y)).set (d (11,t)) (some Z)) n (upd d rL g) (upd C (11,t) (some Z)):=by
 have dA:Go.Am.upd (Go.Am.upd d (20,0) nn) rL g (11,t)=d (11,t):=by rw[au (by decide),au (by decide)]
 have dB:Go.Am.upd (Go.Am.upd d (20,0) nn) rL g (20,0)=nn:=by rw[au (by decide),ah]
 have S4:=S.set (20,0) Y YX dB
 have S5:=((S4.set (11,t) Z ((au (by decide)).trans cL) dA).drop (20,0)).nC (d':=Go.Am.upd d rL g) (20,0) ah fun s c=>by
  by_cases c2:s=rL
  ·subst c2;rw[ah,ah]
  ·rw[ay c2,ay c2,ay c]
 refine S5.eq ?_ rfl
 funext s
 by_cases c1:s=(20,0)
 ·subst c1;rw[ah,au (by decide),hsc]
 ·rw[ay c1]
  by_cases c2:s=(11,t)
  ·subst c2;rw[ah,ah]
  ·rw[ay c2,ay c1,ay c2,hC s c1]
set_option maxRecDepth 100000 in
set_option maxHeartbeats 8000000 in
theorem Iz {h:PT aj} {nb nn off len cap ba t k:Nat} {d:Rl→Nat} {C:Rl→Option aj} {base th b side fl:Int} {v1:Value} {W:List Int} {L:List Value} {Lf:List Int} (S:St h nn d C) (M:dP d C W L k) (hk:k≤100000) (e5:C (5,0)=row [pt (d rM),I6 base,I6 nb,v1]) (jD:C (10,t)=row [.iface 302 (pt (d (11,t)))]) (cL:C (11,t)=row (bV (d (5,0)) th (d (12,t)) off len cap (d (13,t)) side 2 177)) (zh:C (13,t)=row [I6 fl,I6 0,pt (d rM),I6 th,I6 ba,.func (.func 180) ⟨[pt (d (13,t))]⟩ ⟨[]⟩,I6 0]) (hfl:0≤fl∧fl<100000) (k_:C (12,t)=row (Lf.map (.int .i64))) (hl:0<len) (hL:Lf[off]? = some b) (hb:0≤b∧b<16) (hb0:0≤base∧base<100000) (ht:0≤th∧th<64) (hba:base+4*b+3=ba) (qE:ba<W.length) (hw:W.length≤100000) (hsc:C (20,0)=none) (IA:W[ba]=0):
  b9 Tryz.prog OP 59 [pt (d (10,t))] h nn fun r h' n'=>∃ g,nn≤g∧g<n'∧r=dY [U8 2,.bool false]∧St h' n' (upd d rL g) (upd (upd (bM C (d rW) g (W.set ba (th+1)) (L++bI th ba 4 0 (th+1) true) (k+1)) (13,t) (row [I6 fl,I6 0,pt (d rM),I6 th,I6 ba,.nilFunc,I6 0])) (11,t) (row (bV (d (5,0)) th (d (12,t)) off len cap (d (13,t)) side 15 182))):=by
 have g5:=S.at e5
 have n_:=S.at jD
 have iw:=S.at cL
 have uV:=S.at k_
 have n5:=S.lt e5
 have YY:=S.at zh
 have n13:=S.lt zh
 have d13:=S.df cL zh (by simp)
 have EU:=S.lt jD
 have CS:=S.lt cL
 have Ka:=S.lt k_
 have Kc:(Lf.map (Value.int .i64))[off]? = some (.int .i64 b):=by rw[List.getElem?_map,hL];rfl
 have kY:Nat.blt 0 len=true:=Nat.ble_eq_true_of_le hl
 obtain⟨t1,t2⟩:=ht
 obtain⟨b1,b2⟩:=hb
 obtain⟨b3,b4⟩:=hb0
 have b5:b<100:=by omega
 simp only[bV] at iw
 have Ms:=M.upd (a:=20) (b:=0) (i:=nn) (B:=row [U8 0,.nilFunc]) (by omega)
 clear e5 jD k_
 refine aC (N:=13) Tryz.func59 rfl rfl fun z hP hO hro hN hQ=>?_
 repeat' first |simp(disch:=first |omega |assumption) only[go_sem, *,eX,oY] | (apply xs<;>intro _)<;>try omega | ((with_reducible refine bR 1 ?_);refine dz 47 1 w180_1 ?_) |refine fun (_ _:List Nat)=>?_ | (first |refine aT Tryz.func218 rfl ?_ ?_ ?_ ?_ |refine aT Tryz.func177 rfl ?_ ?_ ?_ ?_ |refine aT Tryz.func181 rfl ?_ ?_ ?_ ?_ |refine aT Tryz.func180 rfl ?_ ?_ ?_ ?_ |fail)<;>intros
 refine eJ (YL (o:=0) (x:=th+1) qO (S.new (20,0) _ bG bH) Ms hk ⟨t1,t2⟩ qE IA) (by simp only[*]) (by simp only[*]) (by simp only[go_sem, *]) (by simp only[go_sem, *]) ?_
 rintro r h2 sC ⟨g,m_,gx,rfl,S2⟩
 have f11:=S2.iZ (a:=11) (b:=t) (by decide) ((au (by decide)).trans cL)
 rw[au (by decide)] at f11
 have f13:=S2.iZ (a:=13) (b:=t) (by decide) ((au (by decide)).trans zh)
 rw[au (by decide)] at f13
 have f20:=S2.iZ (a:=20) (b:=0) (by decide) ah
 rw[ah] at f20
 simp only[bV] at f11
 clear g5 n_ iw uV YY
 repeat' first |simp(disch:=first |omega |assumption) only[go_sem, *] | (apply xs<;>intro _)<;>try omega | ((with_reducible refine bR 5 ?_);refine dz 36 5 w218_5 ?_) | ((with_reducible refine bR 6 ?_);refine dz 47 6 w180_6 ?_) |refine fun (_ _:List Nat)=>?_
 have dC:Go.Am.upd (Go.Am.upd d (20,0) nn) rL g (13,t)=d (13,t):=by rw[au (by decide),au (by decide)]
 exact⟨g,by omega,gx,St.RD (S2.set (13,t) _ ((aG (by decide)).trans ((au (by decide)).trans zh)) dC) (by rw[au (by decide),aG (by decide),ah]) (by rw[au (by decide),aG (by decide),au (by decide)];exact cL) (fun s c=>by
  by_cases c3:s=(13,t)
  ·subst c3;rw[ah,ah]
  ·rw[ay c3,ay c3,jU c,au (by decide)]) (by rw[au (by decide),aG (by decide)];exact hsc)⟩
end Go.Proofs.YtbceiadaihphaaaGreat
namespace Go.Proofs.YtbceiadaihphaaaGreat
open Go.Am
set_option maxRecDepth 100000 in
set_option maxHeartbeats 8000000 in
theorem EY {h:PT aj} {nb nn off len cap ba t k:Nat} {d:Rl→Nat} {C:Rl→Option aj} {base th b side fl:Int} {v1:Value} {W:List Int} {L:List Value} {Lf:List Int} (S:St h nn d C) (M:dP d C W L k) (hk:k≤100000) (e5:C (5,0)=row [pt (d rM),I6 base,I6 nb,v1]) (jD:C (10,t)=row [.iface 302 (pt (d (11,t)))]) (cL:C (11,t)=row (bV (d (5,0)) th (d (12,t)) off len cap (d (13,t)) side 2 177)) (zh:C (13,t)=row [I6 fl,I6 0,pt (d rM),I6 th,I6 ba,.func (.func 180) ⟨[pt (d (13,t))]⟩ ⟨[]⟩,I6 0]) (hfl:0≤fl∧fl<100000) (k_:C (12,t)=row (Lf.map (.int .i64))) (hl:0<len) (hL:Lf[off]? = some b) (hb:0≤b∧b<16) (hb0:0≤base∧base<100000) (ht:0≤th∧th<64) (hba:base+4*b+3=ba) (qE:ba<W.length) (hw:W.length≤100000) (hsc:C (20,0)=none) (IA:W[ba]≠0):
  b9 Tryz.prog OP 59 [pt (d (10,t))] h nn fun r h' n'=>∃ g,nn≤g∧g<n'∧r=dY [U8 2,.bool false]∧St h' n' (upd d rL g) (upd (upd (bM C (d rW) g W (L++bI th ba 4 W[ba] W[ba] false) (k+1)) (13,t) (row [I6 (fl+1),I6 0,pt (d rM),I6 th,I6 ba,.func (.func 180) ⟨[pt (d (13,t))]⟩ ⟨[]⟩,I6 0])) (11,t) (row (bV (d (5,0)) th (d (12,t)) off len cap (d (13,t)) side 2 177))):=by
 have g5:=S.at e5
 have n_:=S.at jD
 have iw:=S.at cL
 have uV:=S.at k_
 have n5:=S.lt e5
 have YY:=S.at zh
 have n13:=S.lt zh
 have d13:=S.df cL zh (by simp)
 have EU:=S.lt jD
 have CS:=S.lt cL
 have Ka:=S.lt k_
 have Kc:(Lf.map (Value.int .i64))[off]? = some (.int .i64 b):=by rw[List.getElem?_map,hL];rfl
 have kY:Nat.blt 0 len=true:=Nat.ble_eq_true_of_le hl
 obtain⟨t1,t2⟩:=ht
 obtain⟨fl1,fl2⟩:=hfl
 obtain⟨b1,b2⟩:=hb
 obtain⟨b3,b4⟩:=hb0
 have b5:b<100:=by omega
 simp only[bV] at iw
 have Ms:=M.upd (a:=20) (b:=0) (i:=nn) (B:=row [U8 0,.nilFunc]) (by omega)
 clear e5 jD k_
 refine aC (N:=13) Tryz.func59 rfl rfl fun z hP hO hro hN hQ=>?_
 repeat' first |simp(disch:=first |omega |assumption) only[go_sem, *,eX,oY] | (apply xs<;>intro _)<;>try omega | ((with_reducible refine bR 1 ?_);refine dz 47 1 w180_1 ?_) |refine fun (_ _:List Nat)=>?_ | (first |refine aT Tryz.func218 rfl ?_ ?_ ?_ ?_ |refine aT Tryz.func177 rfl ?_ ?_ ?_ ?_ |refine aT Tryz.func181 rfl ?_ ?_ ?_ ?_ |refine aT Tryz.func180 rfl ?_ ?_ ?_ ?_ |fail)<;>intros
 refine eJ (Rn (o:=0) (x:=th+1) qO (S.new (20,0) _ bG bH) Ms hk ⟨t1,t2⟩ qE IA) (by simp only[*]) (by simp only[*]) (by simp only[go_sem, *]) (by simp only[go_sem, *]) ?_
 rintro r h2 sC ⟨g,m_,gx,rfl,S2⟩
 have f11:=S2.iZ (a:=11) (b:=t) (by decide) ((au (by decide)).trans cL)
 rw[au (by decide)] at f11
 have f13:=S2.iZ (a:=13) (b:=t) (by decide) ((au (by decide)).trans zh)
 rw[au (by decide)] at f13
 have f20:=S2.iZ (a:=20) (b:=0) (by decide) ah
 rw[ah] at f20
 simp only[bV] at f11
 clear g5 n_ iw uV YY
 have vo: ¬ fl+1=0:=by omega
 repeat' first |simp(disch:=first |omega |assumption) only[go_sem, *] | (apply xs<;>intro _)<;>try omega | ((with_reducible refine bR 5 ?_);refine dz 36 5 w218_5 ?_) | ((with_reducible refine bR 6 ?_);refine dz 47 6 w180_6 ?_) | ((with_reducible refine bR 2 ?_);refine dz 19 2 w184_2 ?_) |refine fun (_ _:List Nat)=>?_ | (first |refine aT Tryz.func184 rfl ?_ ?_ ?_ ?_ |fail)<;>intros
 have dC:Go.Am.upd (Go.Am.upd d (20,0) nn) rL g (13,t)=d (13,t):=by rw[au (by decide),au (by decide)]
 exact⟨g,by omega,gx,St.RD (S2.set (13,t) _ ((aG (by decide)).trans ((au (by decide)).trans zh)) dC) (by rw[au (by decide),aG (by decide),ah]) (by rw[au (by decide),aG (by decide),au (by decide)];exact cL) (fun s c=>by
  by_cases c3:s=(13,t)
  ·subst c3;rw[ah,ah]
  ·rw[ay c3,ay c3,jU c,au (by decide)]) (by rw[au (by decide),aG (by decide)];exact hsc)⟩
end Go.Proofs.YtbceiadaihphaaaGreat
namespace Go.Proofs.YtbceiadaihphaaaGreat
open Go.Am
theorem dP.dR {d:Rl→Nat} {C:Rl→Option aj} {W:List Int} {L:List Value} {k a b:Nat} {B:Option aj} (M:dP d C W L k) (ha:2<a):dP d (Go.Am.upd C (a,b) B) W L k:=by
 obtain⟨m1,m2,m3,m4⟩:=M
 refine⟨?_,?_,?_,m4⟩
 ·rw[au (by omega)];exact m1
 ·rw[au (by omega)];exact m2
 ·rw[au (by omega)];exact m3
theorem dP.kH {d:Rl→Nat} {C:Rl→Option aj} {W:List Int} {L:List Value} {k a b i:Nat} (M:dP d C W L k) (ha:2<a):dP (Go.Am.upd d (a,b) i) C W L k:=by
 obtain⟨m1,m2,m3,m4⟩:=M
 refine⟨?_,m2,m3,m4⟩
 rw[au (by omega),au (by omega)];exact m1
theorem St.RE {h:PT aj} {n nn i t:Nat} {D d':Rl→Nat} {C C':Rl→Option aj} {B Y Z A:aj} (S:St h n D C') (YX:C' (20,0)=some B) (cL:C' (11,t)=some A) (hC:∀ s,s≠(20,0)→s≠(11,t)→C' s=C s) (hsc:C (20,0)=none) (d20:D (20,0)=nn) (d11:D (11,t)=i) (hd:∀ s,s≠(20,0)→d' s=D s):St ((h.set nn (some Y)).set i (some Z)) n d' (upd C (11,t) (some Z)):=by
 have S4:=S.set (20,0) Y YX d20
 have S5:=((S4.set (11,t) Z ((au (by decide)).trans cL) d11).drop (20,0)).nC (d':=d') (20,0) ah hd
 refine S5.eq ?_ rfl
 funext s
 by_cases c1:s=(20,0)
 ·subst c1;rw[ah,au (by decide),hsc]
 ·rw[ay c1]
  by_cases c2:s=(11,t)
  ·subst c2;rw[ah,ah]
  ·rw[ay c2,ay c1,ay c2,hC s c1 c2]
set_option maxRecDepth 100000 in
set_option maxHeartbeats 8000000 in
theorem EZ {h:PT aj} {nb nn off len ba OJ t k:Nat} {d:Rl→Nat} {C:Rl→Option aj} {base th b b2 side:Int} {v1:Value} {W:List Int} {L:List Value} {Lf:List Int} (S:St h nn d C) (M:dP d C W L k) (hk:k≤100000) (e5:C (5,0)=row [pt (d rM),I6 base,I6 nb,v1]) (jD:C (10,t)=row [.iface 302 (pt (d (11,t)))]) (cL:C (11,t)=row (bV (d (5,0)) th (d (12,t)) off len (aB+1) (d (13,t)) side 3 192)) (k_:C (12,t)=row (Lf.map (.int .i64))) (hl:1<len) (hL:Lf[off]? = some b) (V0:Lf[off+1]? = some b2) (hb:0≤b∧b<16) (CF:0≤b2∧b2<16) (hb0:0≤base∧base<100000) (ht:0≤th∧th<64) (hba:base+4*b+3=ba) (qE:ba<W.length) (YZ:base+4*b2+3=OJ) (Y0:OJ<W.length) (hw:W.length≤100000) (hsc:C (20,0)=none) (IA:W[ba]=th+1):
  b9 Tryz.prog OP 59 [pt (d (10,t))] h nn fun r h' n'=>∃ g g3,nn≤g∧g<g3∧g3<n'∧r=dY [U8 3,.bool false]∧St h' n' (upd (upd d rL g) (13,t) g3) (upd (upd (bM C (d rW) g (W.set ba 0) (L++bI th ba 2 (th+1) 0 false) (k+1)) (13,t) (row [I6 0,I6 0,pt (d rM),I6 th,I6 OJ,.func (.func 180) ⟨[pt g3]⟩ ⟨[]⟩,I6 0])) (11,t) (row (bV (d (5,0)) th (d (12,t)) (off+1) (len-1) (aB+1) g3 side 2 177))):=by
 have g5:=S.at e5
 have n_:=S.at jD
 have iw:=S.at cL
 have uV:=S.at k_
 have g0:=S.at M.mem
 have gw:=S.at M.words
 have n0:=S.lt M.mem
 have nw:=S.lt M.words
 have n5:=S.lt e5
 have EU:=S.lt jD
 have CS:=S.lt cL
 have Ka:=S.lt k_
 have hg:=eC qE
 rw[IA] at hg
 have a1:(0:Int)≤(ba:Int):=by omega
 have a2:(ba:Int)<(W.length:Int):=by omega
 have Kc:(Lf.map (Value.int .i64))[off]? = some (.int .i64 b):=by rw[List.getElem?_map,hL];rfl
 have kY:Nat.blt 0 len=true:=Nat.ble_eq_true_of_le (by omega)
 obtain⟨t1,t2⟩:=ht
 obtain⟨b1,b2'⟩:=hb
 obtain⟨b3,b4⟩:=hb0
 have b5:b<100:=by omega
 simp only[bV] at iw
 have Ms:=M.upd (a:=20) (b:=0) (i:=nn) (B:=row [U8 0,.nilFunc]) (by omega)
 refine aC (N:=13) Tryz.func59 rfl rfl fun z hP hO hro hN hQ=>?_
 repeat' first |simp(disch:=first |omega |assumption) only[go_sem, *,eX,oY] | (apply xs<;>intro _)<;>try omega | ((with_reducible refine bR 1 ?_);refine dz 28 1 w192_1 ?_) |refine fun (_ _:List Nat)=>?_ | (first |refine aT Tryz.func218 rfl ?_ ?_ ?_ ?_ |refine aT Tryz.func192 rfl ?_ ?_ ?_ ?_ |refine aT Tryz.func193 rfl ?_ ?_ ?_ ?_ |refine aT Tryz.func179 rfl ?_ ?_ ?_ ?_ |refine aT Tryz.func79 rfl ?_ ?_ ?_ ?_ |refine aT Tryz.func90 rfl ?_ ?_ ?_ ?_ |refine aT Tryz.func89 rfl ?_ ?_ ?_ ?_ |fail)<;>intros
 refine eJ (kG (x:=0) qO (S.new (20,0) _ bG bH) Ms hk ⟨t1,t2⟩ qE) (by simp only[*]) (by simp only[*]) (by simp only[go_sem, *]) (by simp only[go_sem, *]) ?_
 rintro r h2 sC ⟨g,m_,gx,rfl,S2⟩
 rw[IA] at S2
 have f11:=S2.iZ (a:=11) (b:=t) (by decide) ((au (by decide)).trans cL)
 rw[au (by decide)] at f11
 have f20:=S2.iZ (a:=20) (b:=0) (by decide) ah
 rw[ah] at f20
 simp only[bV] at f11
 have Nt:1≤len:=by omega
 clear g5 n_ iw uV g0 gw
 repeat' first |simp(disch:=first |omega |assumption) only[go_sem, *] | (apply xs<;>intro _)<;>try omega |refine fun (_ _:List Nat)=>?_
 have M3:dP (upd (upd d (20,0) nn) rL g) (bM (upd C (20,0) (row [U8 0,.nilFunc])) (upd d (20,0) nn rW) g (W.set ba 0) (L++bI th ba 2 (th+1) 0 false) (k+1)) (W.set ba 0) (L++bI th ba 2 (th+1) 0 false) (k+1):=dP.next (W:=W) (L:=L) List.length_set (by rw[List.length_append,M.len];show _+6=_;omega)
 have dA:Go.Am.upd (Go.Am.upd d (20,0) nn) rL g (11,t)=d (11,t):=rR
 have S3:=S2.set (11,t) (.cells (PT.ofList .leaf 0 [pt (d (5,0)),I6 th,.slice (some ⟨d (12,t),off+1,none⟩) (len-1) (aB+1),pt (d (13,t)),U6 side,U8 3,.func (.func 192) ⟨[]⟩ ⟨[]⟩]) false) (rE cL) dA
 have bg:=Ao (nb:=nb) (off:=off+1) (len:=len-1) (cap:=aB+1) (ba:=OJ) (base:=base) (th:=th) (b:=b2) (v1:=v1) (lk:=pt (d (13,t))) (sd:=U6 side) (p:=U8 3) (q := .func (.func 192) ⟨[]⟩ ⟨[]⟩) (t:=t) (Lf:=Lf) S3 (M3.dR (by omega)) (rE e5) rR (rE k_) (by omega) V0 CF ⟨b3,b4⟩ ⟨t1,t2⟩ YZ (by rw[List.length_set];exact Y0) (by rw[List.length_set];exact hw)
 rw[dA] at bg
 refine eJ (bg) (by simp only[*]) (by simp only[*]) (by simp only[go_sem, *]) (by simp only[go_sem, *]) ?_
 rintro r h3 n3 ⟨g3,hg3,Y1,rfl,S4⟩
 have f11:=S4.at (r:=(11,t)) ah
 rw[show Go.Am.upd (Go.Am.upd (Go.Am.upd d (20,0) nn) rL g) (13,t) g3 (11,t)=d (11,t) by simp(disch:=first |decide |assumption |omega) only[rM,rW,rL,ah,au,aR,aG]] at f11
 have f20:=S4.at (r:=(20,0)) (B := .cells (PT.ofList .leaf 0 [U8 0,.nilFunc]) false) rR
 rw[show Go.Am.upd (Go.Am.upd (Go.Am.upd d (20,0) nn) rL g) (13,t) g3 (20,0)=nn by simp(disch:=first |decide |assumption |omega) only[rM,rW,rL,ah,au,aR,aG]] at f20
 clear bg
 repeat' first |simp(disch:=first |omega |assumption) only[go_sem, *] | (apply xs<;>intro _)<;>try omega | ((with_reducible refine bR 5 ?_);refine dz 36 5 w218_5 ?_) |refine fun (_ _:List Nat)=>?_
 have dE:Go.Am.upd (Go.Am.upd d (20,0) nn) rL g (5,0)=d (5,0):=rR
 have dF:Go.Am.upd (Go.Am.upd d (20,0) nn) rL g (12,t)=d (12,t):=rR
 refine⟨g,g3,by omega,by omega,Y1,?_⟩
 rw[dE,dF]
 simp only[bV]
 refine St.RE (B := .cells (PT.ofList .leaf 0 [U8 0,.nilFunc]) false) (C:=Go.Am.upd (bM C (d rW) g (W.set ba 0) (L++bI th ba 2 (th+1) 0 false) (k+1)) (13,t) (row [I6 0,I6 0,pt (d rM),I6 th,I6 OJ,.func (.func 180) ⟨[pt g3]⟩ ⟨[]⟩,I6 0])) S4 rR ah ?_ ?_ rR rR (fun s c=>?_)
 ·intro s c1 c2
  rw[ay c2]
  by_cases c3:s=(13,t)
  ·subst c3;rw[ah,ah];simp(disch:=decide) only[rM,au]
  ·rw[ay c3,ay c3,ay c2,jU c1,au (by decide)]
 ·simp(disch:=first |decide |assumption |omega) only[rM,rW,rL,ah,au,aR,aG];exact hsc
 ·by_cases c3:s=(13,t)
  ·subst c3;rw[ah,ah]
  ·rw[ay c3,ay c3]
   by_cases c2:s=rL
   ·subst c2;rw[ah,ah]
   ·rw[ay c2,ay c2,ay c]
set_option maxRecDepth 100000 in
set_option maxHeartbeats 8000000 in
theorem wV {h:PT aj} {nb nn off ba t k:Nat} {d:Rl→Nat} {C:Rl→Option aj} {base th b side:Int} {v1:Value} {W:List Int} {L:List Value} {Lf:List Int} (S:St h nn d C) (M:dP d C W L k) (hk:k≤100000) (e5:C (5,0)=row [pt (d rM),I6 base,I6 nb,v1]) (jD:C (10,t)=row [.iface 302 (pt (d (11,t)))]) (cL:C (11,t)=row (bV (d (5,0)) th (d (12,t)) off 1 (aB+1) (d (13,t)) side 3 192)) (k_:C (12,t)=row (Lf.map (.int .i64))) (hL:Lf[off]? = some b) (hb:0≤b∧b<16) (hb0:0≤base∧base<100000) (ht:0≤th∧th<64) (hba:base+4*b+3=ba) (qE:ba<W.length) (hw:W.length≤100000) (hsc:C (20,0)=none) (IA:W[ba]=th+1):
  b9 Tryz.prog OP 59 [pt (d (10,t))] h nn fun r h' n'=>∃ g,nn≤g∧g<n'∧r=dY [U8 3,.bool true]∧St h' n' (upd d rL g) (upd (bM C (d rW) g (W.set ba 0) (L++bI th ba 2 (th+1) 0 false) (k+1)) (11,t) (row [pt (d (5,0)),I6 th,.slice (some ⟨d (12,t),off+1,none⟩) 0 (aB+1),pt (d (13,t)),U6 side,U8 0,.nilFunc])):=by
 have g5:=S.at e5
 have n_:=S.at jD
 have iw:=S.at cL
 have uV:=S.at k_
 have g0:=S.at M.mem
 have gw:=S.at M.words
 have n0:=S.lt M.mem
 have nw:=S.lt M.words
 have n5:=S.lt e5
 have EU:=S.lt jD
 have CS:=S.lt cL
 have Ka:=S.lt k_
 have hg:=eC qE
 rw[IA] at hg
 have a1:(0:Int)≤(ba:Int):=by omega
 have a2:(ba:Int)<(W.length:Int):=by omega
 have Kc:(Lf.map (Value.int .i64))[off]? = some (.int .i64 b):=by rw[List.getElem?_map,hL];rfl
 obtain⟨t1,t2⟩:=ht
 obtain⟨b1,b2'⟩:=hb
 obtain⟨b3,b4⟩:=hb0
 have b5:b<100:=by omega
 simp only[bV] at iw
 have Ms:=M.upd (a:=20) (b:=0) (i:=nn) (B:=row [U8 0,.nilFunc]) (by omega)
 refine aC (N:=13) Tryz.func59 rfl rfl fun z hP hO hro hN hQ=>?_
 repeat' first |simp(disch:=first |omega |assumption) only[go_sem, *,eX,oY] | (apply xs<;>intro _)<;>try omega | ((with_reducible refine bR 1 ?_);refine dz 28 1 w192_1 ?_) |refine fun (_ _:List Nat)=>?_ | (first |refine aT Tryz.func218 rfl ?_ ?_ ?_ ?_ |refine aT Tryz.func192 rfl ?_ ?_ ?_ ?_ |refine aT Tryz.func193 rfl ?_ ?_ ?_ ?_ |refine aT Tryz.func179 rfl ?_ ?_ ?_ ?_ |refine aT Tryz.func79 rfl ?_ ?_ ?_ ?_ |refine aT Tryz.func90 rfl ?_ ?_ ?_ ?_ |refine aT Tryz.func89 rfl ?_ ?_ ?_ ?_ |fail)<;>intros
 refine eJ (kG (x:=0) qO (S.new (20,0) _ bG bH) Ms hk ⟨t1,t2⟩ qE) (by simp only[*]) (by simp only[*]) (by simp only[go_sem, *]) (by simp only[go_sem, *]) ?_
 rintro r h2 sC ⟨g,m_,gx,rfl,S2⟩
 rw[IA] at S2
 have f11:=S2.iZ (a:=11) (b:=t) (by decide) ((au (by decide)).trans cL)
 rw[au (by decide)] at f11
 have f20:=S2.iZ (a:=20) (b:=0) (by decide) ah
 rw[ah] at f20
 simp only[bV] at f11
 clear g5 n_ iw uV g0 gw
 repeat' first |simp(disch:=first |omega |assumption) only[go_sem, *] | (apply xs<;>intro _)<;>try omega | ((with_reducible refine bR 5 ?_);refine dz 36 5 w218_5 ?_) |refine fun (_ _:List Nat)=>?_ | (first |refine aT Tryz.func173 rfl ?_ ?_ ?_ ?_ |fail)<;>intros
 have dA:Go.Am.upd (Go.Am.upd d (20,0) nn) rL g (11,t)=d (11,t):=rR
 have S3:=S2.set (11,t) (.cells (PT.ofList .leaf 0 [pt (d (5,0)),I6 th,.slice (some ⟨d (12,t),off+1,none⟩) 0 (aB+1),pt (d (13,t)),U6 side,U8 3,.func (.func 192) ⟨[]⟩ ⟨[]⟩]) false) (rE cL) dA
 refine⟨g,by omega,by omega,?_⟩
 refine St.RE (B := .cells (PT.ofList .leaf 0 [U8 0,.nilFunc]) false) (C:=bM C (d rW) g (W.set ba 0) (L++bI th ba 2 (th+1) 0 false) (k+1)) (S3.cg bG bH) rR ah ?_ ?_ rR rR (fun s c=>?_)
 ·intro s c1 c2
  rw[ay c2,jU c1,au (by decide)]
 ·simp(disch:=first |decide |assumption |omega) only[rM,rW,rL,ah,au,aR,aG];exact hsc
 ·by_cases c2:s=rL
  ·subst c2;rw[ah,ah]
  ·rw[ay c2,ay c2,ay c]
end Go.Proofs.YtbceiadaihphaaaGreat
