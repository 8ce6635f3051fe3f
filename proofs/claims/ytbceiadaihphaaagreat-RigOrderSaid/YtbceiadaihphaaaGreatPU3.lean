/-
  A part of the proof: contracts of inner functions.
-/
import Derived.Test.YtbceiadaihphaaaGreatPS
set_option linter.unusedVariables false
set_option linter.unusedSimpArgs false
namespace Go.Proofs.YtbceiadaihphaaaGreat
open Go.Am
set_option maxRecDepth 100000 in
set_option maxHeartbeats 8000000 in
theorem Md {h:PT aj} {n nb nn s:Nat} {d:Rl→Nat} {C:Rl→Option aj} {base th:Int} {X:List jy} {ck t k ba b0:Nat} {W:List Int} {L:List Value} (S:St h nn d C) (E:BV d C base nb n X ck) (M:dP d C W L k) (hb0:0≤base∧base<100000) (qE:base+4*nb≤W.length) (hw:W.length≤100000) (ht:0≤th∧th<64) (hnb:0<nb∧nb≤16) (hs:s<2^64) (hs0:s≠0) (um:(dH nb (kV 64 0 s))[0]? = some b0) (hba:base+4*(b0:Int)+3=ba) (Gt:b0<nb):
  b9 Tryz.prog OP 71 [pt (d (4,0)),I6 th,U6 s] h nn fun r h' n'=>∃ w p q g,nn≤p∧p<q∧q<g∧g<w∧w<n'∧r=dY [pt w,I6 0]∧St h' n' (upd (upd (upd (upd d (11,t) p) (12,t) q) (13,t) g) (10,t) w) (upd (upd (upd (upd (upd C (11,t) (row (Gm (d (5,0)) th (.slice (some ⟨q,0,none⟩) (dH nb (kV 64 0 s)).length (aB+1))))) (12,t) (row ((dH nb (kV 64 0 s)).map fun b:Nat=>Value.int .i64 (b:Int)))) (13,t) (row [I6 0,I6 0,pt (d rM),I6 th,I6 ba,.func (.func 180) ⟨[pt g]⟩ ⟨[]⟩,I6 0])) (11,t) (row [pt (d (5,0)),I6 th,.slice (some ⟨q,0,none⟩) (dH nb (kV 64 0 s)).length (aB+1),pt g,U6 0,U8 2,.func (.func 177) ⟨[]⟩ ⟨[]⟩])) (10,t) (row [.iface 302 (pt p)])):=by
 obtain⟨e1,e2,e3⟩:=E
 have g1:=S.at e1
 have n1:=S.lt e1
 have wb:=Ir (t:=t) (S.junk (i:=nn) (m:=nn+1) (B:=row [.iface 154 (pt (d (5,0)))]) bG bH) M hb0 qE hw e2 ht hnb hs hs0 um hba Gt
 obtain⟨t1,t2⟩:=ht
 clear e1 e2 e3
 refine aC (N:=28) Tryz.func71 rfl rfl fun z hP hO hro hN hQ=>?_
 repeat' first |simp(disch:=first |omega |assumption) only[go_sem, *] | (apply xs<;>intro _)<;>try omega |refine fun (_ _:List Nat)=>?_ | (first |refine aT Tryz.func195 rfl ?_ ?_ ?_ ?_ |fail)<;>intros
 refine eJ (wb) (by simp only[*]) (by simp only[*]) (by simp only[go_sem, *]) (by simp only[go_sem, *]) ?_
 rintro r h2 n2 ⟨p,q,g,p1,p2,p3,p4,rfl,S3⟩
 clear g1 wb um hba
 repeat' first |simp(disch:=first |omega |assumption) only[go_sem, *] | (apply xs<;>intro _)<;>try omega |refine fun (_ _:List Nat)=>?_ | (first |refine aT Tryz.func197 rfl ?_ ?_ ?_ ?_ |fail)<;>intros
 exact⟨n2,p,q,g,by omega,p2,p3,p4,by omega,rfl,S3.new (10,t) _ bG bH⟩
end Go.Proofs.YtbceiadaihphaaaGreat
namespace Go.Proofs.YtbceiadaihphaaaGreat
open Go.Am
def bV (de:Nat) (th:Int) (lf:Nat) (off len cap:Nat) (lk:Nat) (side:Int) (pc:Int) (f:Nat):List Value:=[pt de,I6 th,.slice (some ⟨lf,off,none⟩) len cap,pt lk,U6 side,U8 pc,.func (.func f) ⟨[]⟩ ⟨[]⟩]
theorem _root_.Go.Am.St.nC {h:PT aj} {n:Nat} {d:Rl→Nat} {C:Rl→Option aj} (S:St h n d C) (r:Rl) (hr:C r=none) {d':Rl→Nat} (hd:∀ s,s≠r→d' s=d s):St h n d' C:=by
 refine⟨fun s B q=>?_,fun s t q1 q2 q=>?_,S.wf⟩
 ·rw[hd s (fun c=>by rw[c,hr] at q;simp at q)];exact S.get s B q
 ·rw[hd s (fun c=>q1 (by rw[c,hr])),hd t (fun c=>q2 (by rw[c,hr]))] at q
  exact S.inj s t q1 q2 q
theorem jU {C:Rl→Option aj} {w g k:Nat} {W:List Int} {L:List Value} {B:Option aj} {s:Rl} (c:s≠(20,0)):bM (upd C (20,0) B) w g W L k s=bM C w g W L k s:=by
 unfold bM
 by_cases c1:s=rM
 ·subst c1;rw[ah,ah]
 ·rw[ay c1,ay c1]
  by_cases c2:s=rL
  ·subst c2;rw[ah,ah]
  ·rw[ay c2,ay c2]
   by_cases c3:s=rW
   ·subst c3;rw[ah,ah]
   ·rw[ay c3,ay c3,ay c]
theorem Me {C:Rl→Option aj} {w g k t:Nat} {W:List Int} {L:List Value} {B X Y Z:Option aj} (hsc:C (20,0)=none):upd (upd (upd (upd (bM (upd C (20,0) B) w g W L k) (11,t) X) (20,0) Y) (11,t) Z) (20,0) none=upd (bM C w g W L k) (11,t) Z:=by
 funext s
 by_cases c1:s=(20,0)
 ·subst c1;rw[ah,au (by decide),aG (by decide),hsc]
 ·rw[ay c1]
  by_cases c2:s=(11,t)
  ·subst c2;rw[ah,ah]
  ·rw[ay c2,ay c1,ay c2,ay c2,jU c1]
set_option maxRecDepth 100000 in
set_option maxHeartbeats 8000000 in
theorem Iu {h:PT aj} {nb nn off len cap ba t k:Nat} {d:Rl→Nat} {C:Rl→Option aj} {base th b side:Int} {v1:Value} {W:List Int} {L:List Value} {Lf:List Int} (S:St h nn d C) (M:dP d C W L k) (hk:k≤100000) (e5:C (5,0)=row [pt (d rM),I6 base,I6 nb,v1]) (jD:C (10,t)=row [.iface 302 (pt (d (11,t)))]) (cL:C (11,t)=row (bV (d (5,0)) th (d (12,t)) off len cap (d (13,t)) side 15 182)) (k_:C (12,t)=row (Lf.map (.int .i64))) (hl:0<len) (hL:Lf[off]? = some b) (hb:0≤b∧b<16) (hb0:0≤base∧base<100000) (ht:0≤th∧th<64) (hba:base+4*b+0=ba) (qE:ba<W.length) (hw:W.length≤100000) (hsc:C (20,0)=none):
  b9 Tryz.prog OP 59 [pt (d (10,t))] h nn fun r h' n'=>∃ g,nn≤g∧g<n'∧r=dY [U8 15,.bool false]∧St h' n' (upd d rL g) (upd (bM C (d rW) g W (L++bI th ba 1 W[ba] W[ba] false) (k+1)) (11,t) (row (bV (d (5,0)) th (d (12,t)) off len cap (d (13,t)) W[ba] 19 186))):=by
 have g5:=S.at e5
 have n_:=S.at jD
 have iw:=S.at cL
 have uV:=S.at k_
 have n5:=S.lt e5
 have EU:=S.lt jD
 have CS:=S.lt cL
 have Ka:=S.lt k_
 have Kc:(Lf.map (Value.int .i64))[off]? = some (.int .i64 b):=by rw[List.getElem?_map,hL];rfl
 have kY:Nat.blt 0 len=true:=Nat.ble_eq_true_of_le hl
 obtain⟨t1,t2⟩:=ht
 obtain⟨b1,b2⟩:=hb
 obtain⟨b3,b4⟩:=hb0
 have b5:b<100:=by omega
 simp only[bV] at iw
 have Ms:=M.upd (a:=20) (b:=0) (i:=nn) (B:=row [U8 0,.nilFunc]) (by omega)
 clear e5 jD k_
 refine aC (N:=13) Tryz.func59 rfl rfl fun z hP hO hro hN hQ=>?_
 repeat' first |simp(disch:=first |omega |assumption) only[go_sem, *,eX,oY] | (apply xs<;>intro _)<;>try omega | ((with_reducible refine bR 1 ?_);refine dz 25 1 w182_1 ?_) |refine fun (_ _:List Nat)=>?_ | (first |refine aT Tryz.func218 rfl ?_ ?_ ?_ ?_ |refine aT Tryz.func182 rfl ?_ ?_ ?_ ?_ |fail)<;>intros
 refine eJ (lX qO (S.new (20,0) _ bG bH) Ms hk ⟨t1,t2⟩ qE) (by simp only[*]) (by simp only[*]) (by simp only[go_sem, *]) (by simp only[go_sem, *]) ?_
 rintro r h2 sC ⟨g,m_,gx,rfl,S2⟩
 have f11:=S2.iZ (a:=11) (b:=t) (by decide) ((au (by decide)).trans cL)
 rw[au (by decide)] at f11
 have f20:=S2.iZ (a:=20) (b:=0) (by decide) ah
 rw[ah] at f20
 simp only[bV] at f11
 clear g5 n_ iw uV
 repeat' first |simp(disch:=first |omega |assumption) only[go_sem, *] | (apply xs<;>intro _)<;>try omega | ((with_reducible refine bR 5 ?_);refine dz 36 5 w218_5 ?_) |refine fun (_ _:List Nat)=>?_
 simp only[bV]
 have dA:Go.Am.upd (Go.Am.upd d (20,0) nn) rL g (11,t)=d (11,t):=by rw[au (by decide),au (by decide)]
 have dB:Go.Am.upd (Go.Am.upd d (20,0) nn) rL g (20,0)=nn:=by rw[au (by decide),ah]
 have S3:=S2.set (11,t) (.cells (PT.ofList .leaf 0 (bV (d (5,0)) th (d (12,t)) off len cap (d (13,t)) W[ba] 15 182)) false) ((aG (by decide)).trans ((au (by decide)).trans cL)) dA
 have S4:=S3.set (20,0) (.cells (PT.ofList .leaf 0 [U8 19,.func (.func 186) ⟨[]⟩ ⟨[]⟩]) false) ((au (by decide)).trans ((aG (by decide)).trans ah)) dB
 have S5:=((S4.set (11,t) (.cells (PT.ofList .leaf 0 (bV (d (5,0)) th (d (12,t)) off len cap (d (13,t)) W[ba] 19 186)) false) ((au (by decide)).trans ah) dA).drop (20,0)).nC (d':=Go.Am.upd d rL g) (20,0) ah fun s c=>by
  by_cases c2:s=rL
  ·subst c2;rw[ah,ah]
  ·rw[ay c2,ay c2,ay c]
 exact⟨g,by omega,gx,S5.eq (by rw[Me hsc,au (by decide)];rfl) rfl⟩
end Go.Proofs.YtbceiadaihphaaaGreat
namespace Go.Proofs.YtbceiadaihphaaaGreat
open Go.Am
theorem Iv {C:Rl→Option aj} {w g k t:Nat} {W:List Int} {L:List Value} {B Y Z:Option aj} (hsc:C (20,0)=none):upd (upd (upd (bM (upd C (20,0) B) w g W L k) (20,0) Y) (11,t) Z) (20,0) none=upd (bM C w g W L k) (11,t) Z:=by
 funext s
 by_cases c1:s=(20,0)
 ·subst c1;rw[ah,au (by decide),aG (by decide),hsc]
 ·rw[ay c1]
  by_cases c2:s=(11,t)
  ·subst c2;rw[ah,ah]
  ·rw[ay c2,ay c1,ay c2,jU c1]
theorem St.tq {h:PT aj} {n nn g k t:Nat} {d:Rl→Nat} {C:Rl→Option aj} {W:List Int} {L:List Value} {B Y Z A:aj} (S:St h n (upd (upd d (20,0) nn) rL g) (bM (upd C (20,0) (some B)) (upd d (20,0) nn rW) g W L k)) (hsc:C (20,0)=none) (cL:C (11,t)=some A):St ((h.set nn (some Y)).set (d (11,t)) (some Z)) n (upd d rL g) (upd (bM C (d rW) g W L k) (11,t) (some Z)):=by
 have dA:Go.Am.upd (Go.Am.upd d (20,0) nn) rL g (11,t)=d (11,t):=by rw[au (by decide),au (by decide)]
 have dB:Go.Am.upd (Go.Am.upd d (20,0) nn) rL g (20,0)=nn:=by rw[au (by decide),ah]
 have S4:=S.set (20,0) Y ((aG (by decide)).trans ah) dB
 have S5:=((S4.set (11,t) Z ((au (by decide)).trans ((aG (by decide)).trans ((au (by decide)).trans cL))) dA).drop (20,0)).nC (d':=Go.Am.upd d rL g) (20,0) ah fun s c=>by
  by_cases c2:s=rL
  ·subst c2;rw[ah,ah]
  ·rw[ay c2,ay c2,ay c]
 exact S5.eq (by rw[Iv hsc,au (by decide)]) rfl
set_option maxRecDepth 100000 in
set_option maxHeartbeats 8000000 in
theorem Iw {h:PT aj} {nb nn off len cap ba t k:Nat} {d:Rl→Nat} {C:Rl→Option aj} {base th b side:Int} {v1:Value} {W:List Int} {L:List Value} {Lf:List Int} (S:St h nn d C) (M:dP d C W L k) (hk:k≤100000) (e5:C (5,0)=row [pt (d rM),I6 base,I6 nb,v1]) (jD:C (10,t)=row [.iface 302 (pt (d (11,t)))]) (cL:C (11,t)=row (bV (d (5,0)) th (d (12,t)) off len cap (d (13,t)) side 19 186)) (k_:C (12,t)=row (Lf.map (.int .i64))) (hl:0<len) (hL:Lf[off]? = some b) (hb:0≤b∧b<16) (hb0:0≤base∧base<100000) (ht:0≤th∧th<64) (Ke:0≤side∧side<2) (hba:base+4*b+1+(1-side)=ba) (qE:ba<W.length) (hw:W.length≤100000) (hsc:C (20,0)=none):
  b9 Tryz.prog OP 59 [pt (d (10,t))] h nn fun r h' n'=>∃ g,nn≤g∧g<n'∧r=dY [U8 19,.bool false]∧St h' n' (upd d rL g) (upd (bM C (d rW) g W (L++bI th ba 1 W[ba] W[ba] false) (k+1)) (11,t) (row (bV (d (5,0)) th (d (12,t)) off len cap (d (13,t)) side (if W[ba]=0 then 20 else 19) (if W[ba]=0 then 189 else 186)))):=by
 have g5:=S.at e5
 have n_:=S.at jD
 have iw:=S.at cL
 have uV:=S.at k_
 have n5:=S.lt e5
 have EU:=S.lt jD
 have CS:=S.lt cL
 have Ka:=S.lt k_
 have Kc:(Lf.map (Value.int .i64))[off]? = some (.int .i64 b):=by rw[List.getElem?_map,hL];rfl
 have kY:Nat.blt 0 len=true:=Nat.ble_eq_true_of_le hl
 obtain⟨t1,t2⟩:=ht
 obtain⟨b1,b2⟩:=hb
 obtain⟨b3,b4⟩:=hb0
 have b5:b<100:=by omega
 simp only[bV] at iw
 have Ms:=M.upd (a:=20) (b:=0) (i:=nn) (B:=row [U8 0,.nilFunc]) (by omega)
 clear e5 jD k_
 refine aC (N:=13) Tryz.func59 rfl rfl fun z hP hO hro hN hQ=>?_
 obtain⟨sd1,sd2⟩:=Ke
 by_cases cs:side=0
 ·subst cs
  have c3:(1:Int).tmod 2=1:=rfl
  have Mf:base+4*b+2=ba:=by omega
  repeat' first |simp(disch:=first |omega |assumption) only[go_sem, *,eX,oY] | (apply xs<;>intro _)<;>try omega | ((with_reducible refine bR 1 ?_);refine dz 30 1 w188_1 ?_) |refine fun (_ _:List Nat)=>?_ | (first |refine aT Tryz.func218 rfl ?_ ?_ ?_ ?_ |refine aT Tryz.func188 rfl ?_ ?_ ?_ ?_ |refine aT Tryz.func186 rfl ?_ ?_ ?_ ?_ |fail)<;>intros
  refine eJ (lX qO (S.new (20,0) _ bG bH) Ms hk ⟨t1,t2⟩ qE) (by simp only[*]) (by simp only[*]) (by simp only[go_sem, *]) (by simp only[go_sem, *]) ?_
  rintro r h2 sC ⟨g,m_,gx,rfl,S2⟩
  have f11:=S2.iZ (a:=11) (b:=t) (by decide) ((au (by decide)).trans cL)
  rw[au (by decide)] at f11
  have f20:=S2.iZ (a:=20) (b:=0) (by decide) ah
  rw[ah] at f20
  simp only[bV] at f11
  clear g5 n_ iw uV
  by_cases cw:W[ba]=0
  ·rw[if_pos cw,if_pos cw] at hQ
   simp only[cw] at S2
   repeat' first |simp(disch:=first |omega |assumption) only[go_sem, *] | (apply xs<;>intro _)<;>try omega | ((with_reducible refine bR 5 ?_);refine dz 36 5 w218_5 ?_) |refine fun (_ _:List Nat)=>?_
   exact⟨g,by omega,gx,St.tq S2 hsc cL⟩
  ·rw[if_neg cw,if_neg cw] at hQ
   repeat' first |simp(disch:=first |omega |assumption) only[go_sem, *] | (apply xs<;>intro _)<;>try omega | ((with_reducible refine bR 5 ?_);refine dz 36 5 w218_5 ?_) |refine fun (_ _:List Nat)=>?_
   exact⟨g,by omega,gx,St.tq S2 hsc cL⟩
 ·have RC:side=1:=by omega
  subst RC
  have c3:(2:Int).tmod 2=0:=rfl
  have Mf:base+4*b+1=ba:=by omega
  repeat' first |simp(disch:=first |omega |assumption) only[go_sem, *,eX,oY] | (apply xs<;>intro _)<;>try omega | ((with_reducible refine bR 1 ?_);refine dz 30 1 w188_1 ?_) |refine fun (_ _:List Nat)=>?_ | (first |refine aT Tryz.func218 rfl ?_ ?_ ?_ ?_ |refine aT Tryz.func188 rfl ?_ ?_ ?_ ?_ |refine aT Tryz.func186 rfl ?_ ?_ ?_ ?_ |fail)<;>intros
  refine eJ (lX qO (S.new (20,0) _ bG bH) Ms hk ⟨t1,t2⟩ qE) (by simp only[*]) (by simp only[*]) (by simp only[go_sem, *]) (by simp only[go_sem, *]) ?_
  rintro r h2 sC ⟨g,m_,gx,rfl,S2⟩
  have f11:=S2.iZ (a:=11) (b:=t) (by decide) ((au (by decide)).trans cL)
  rw[au (by decide)] at f11
  have f20:=S2.iZ (a:=20) (b:=0) (by decide) ah
  rw[ah] at f20
  simp only[bV] at f11
  clear g5 n_ iw uV
  by_cases cw:W[ba]=0
  ·rw[if_pos cw,if_pos cw] at hQ
   simp only[cw] at S2
   repeat' first |simp(disch:=first |omega |assumption) only[go_sem, *] | (apply xs<;>intro _)<;>try omega | ((with_reducible refine bR 5 ?_);refine dz 36 5 w218_5 ?_) |refine fun (_ _:List Nat)=>?_
   exact⟨g,by omega,gx,St.tq S2 hsc cL⟩
  ·rw[if_neg cw,if_neg cw] at hQ
   repeat' first |simp(disch:=first |omega |assumption) only[go_sem, *] | (apply xs<;>intro _)<;>try omega | ((with_reducible refine bR 5 ?_);refine dz 36 5 w218_5 ?_) |refine fun (_ _:List Nat)=>?_
   exact⟨g,by omega,gx,St.tq S2 hsc cL⟩
end Go.Proofs.YtbceiadaihphaaaGreat
namespace Go.Proofs.YtbceiadaihphaaaGreat
open Go.Am
set_option maxRecDepth 100000 in
set_option maxHeartbeats 8000000 in
theorem EX {h:PT aj} {nb nn off len cap ba t k:Nat} {d:Rl→Nat} {C:Rl→Option aj} {base th b side:Int} {v1:Value} {W:List Int} {L:List Value} {Lf:List Int} (S:St h nn d C) (M:dP d C W L k) (hk:k≤100000) (e5:C (5,0)=row [pt (d rM),I6 base,I6 nb,v1]) (jD:C (10,t)=row [.iface 302 (pt (d (11,t)))]) (cL:C (11,t)=row (bV (d (5,0)) th (d (12,t)) off len cap (d (13,t)) side 19 191)) (k_:C (12,t)=row (Lf.map (.int .i64))) (hl:0<len) (hL:Lf[off]? = some b) (hb:0≤b∧b<16) (hb0:0≤base∧base<100000) (ht:0≤th∧th<64) (Ke:0≤side∧side<2) (hba:base+4*b+1+side=ba) (qE:ba<W.length) (hw:W.length≤100000) (hsc:C (20,0)=none):
  b9 Tryz.prog OP 59 [pt (d (10,t))] h nn fun r h' n'=>∃ g,nn≤g∧g<n'∧r=dY [U8 19,.bool false]∧St h' n' (upd d rL g) (upd (bM C (d rW) g W (L++bI th ba 1 W[ba] W[ba] false) (k+1)) (11,t) (row (bV (d (5,0)) th (d (12,t)) off len cap (d (13,t)) side (if W[ba]=0 then 3 else 19) (if W[ba]=0 then 192 else 191)))):=by
 have g5:=S.at e5
 have n_:=S.at jD
 have iw:=S.at cL
 have uV:=S.at k_
 have n5:=S.lt e5
 have EU:=S.lt jD
 have CS:=S.lt cL
 have Ka:=S.lt k_
 have Kc:(Lf.map (Value.int .i64))[off]? = some (.int .i64 b):=by rw[List.getElem?_map,hL];rfl
 have kY:Nat.blt 0 len=true:=Nat.ble_eq_true_of_le hl
 obtain⟨t1,t2⟩:=ht
 obtain⟨b1,b2⟩:=hb
 obtain⟨b3,b4⟩:=hb0
 have b5:b<100:=by omega
 simp only[bV] at iw
 have Ms:=M.upd (a:=20) (b:=0) (i:=nn) (B:=row [U8 0,.nilFunc]) (by omega)
 clear e5 jD k_
 refine aC (N:=13) Tryz.func59 rfl rfl fun z hP hO hro hN hQ=>?_
 obtain⟨sd1,sd2⟩:=Ke
 by_cases cs:side=0
 ·subst cs
  have c3:(0:Int).tmod 2=0:=rfl
  have Mf:base+4*b+1=ba:=by omega
  repeat' first |simp(disch:=first |omega |assumption) only[go_sem, *,eX,oY] | (apply xs<;>intro _)<;>try omega | ((with_reducible refine bR 1 ?_);refine dz 30 1 w188_1 ?_) |refine fun (_ _:List Nat)=>?_ | (first |refine aT Tryz.func218 rfl ?_ ?_ ?_ ?_ |refine aT Tryz.func188 rfl ?_ ?_ ?_ ?_ |refine aT Tryz.func191 rfl ?_ ?_ ?_ ?_ |fail)<;>intros
  refine eJ (lX qO (S.new (20,0) _ bG bH) Ms hk ⟨t1,t2⟩ qE) (by simp only[*]) (by simp only[*]) (by simp only[go_sem, *]) (by simp only[go_sem, *]) ?_
  rintro r h2 sC ⟨g,m_,gx,rfl,S2⟩
  have f11:=S2.iZ (a:=11) (b:=t) (by decide) ((au (by decide)).trans cL)
  rw[au (by decide)] at f11
  have f20:=S2.iZ (a:=20) (b:=0) (by decide) ah
  rw[ah] at f20
  simp only[bV] at f11
  clear g5 n_ iw uV
  by_cases cw:W[ba]=0
  ·rw[if_pos cw,if_pos cw] at hQ
   simp only[cw] at S2
   repeat' first |simp(disch:=first |omega |assumption) only[go_sem, *] | (apply xs<;>intro _)<;>try omega | ((with_reducible refine bR 5 ?_);refine dz 36 5 w218_5 ?_) |refine fun (_ _:List Nat)=>?_
   exact⟨g,by omega,gx,St.tq S2 hsc cL⟩
  ·rw[if_neg cw,if_neg cw] at hQ
   repeat' first |simp(disch:=first |omega |assumption) only[go_sem, *] | (apply xs<;>intro _)<;>try omega | ((with_reducible refine bR 5 ?_);refine dz 36 5 w218_5 ?_) |refine fun (_ _:List Nat)=>?_
   exact⟨g,by omega,gx,St.tq S2 hsc cL⟩
 ·have RC:side=1:=by omega
  subst RC
  have c3:(1:Int).tmod 2=1:=rfl
  have Mf:base+4*b+2=ba:=by omega
  repeat' first |simp(disch:=first |omega |assumption) only[go_sem, *,eX,oY] | (apply xs<;>intro _)<;>try omega | ((with_reducible refine bR 1 ?_);refine dz 30 1 w188_1 ?_) |refine fun (_ _:List Nat)=>?_ | (first |refine aT Tryz.func218 rfl ?_ ?_ ?_ ?_ |refine aT Tryz.func188 rfl ?_ ?_ ?_ ?_ |refine aT Tryz.func191 rfl ?_ ?_ ?_ ?_ |fail)<;>intros
  refine eJ (lX qO (S.new (20,0) _ bG bH) Ms hk ⟨t1,t2⟩ qE) (by simp only[*]) (by simp only[*]) (by simp only[go_sem, *]) (by simp only[go_sem, *]) ?_
  rintro r h2 sC ⟨g,m_,gx,rfl,S2⟩
  have f11:=S2.iZ (a:=11) (b:=t) (by decide) ((au (by decide)).trans cL)
  rw[au (by decide)] at f11
  have f20:=S2.iZ (a:=20) (b:=0) (by decide) ah
  rw[ah] at f20
  simp only[bV] at f11
  clear g5 n_ iw uV
  by_cases cw:W[ba]=0
  ·rw[if_pos cw,if_pos cw] at hQ
   simp only[cw] at S2
   repeat' first |simp(disch:=first |omega |assumption) only[go_sem, *] | (apply xs<;>intro _)<;>try omega | ((with_reducible refine bR 5 ?_);refine dz 36 5 w218_5 ?_) |refine fun (_ _:List Nat)=>?_
   exact⟨g,by omega,gx,St.tq S2 hsc cL⟩
  ·rw[if_neg cw,if_neg cw] at hQ
   repeat' first |simp(disch:=first |omega |assumption) only[go_sem, *] | (apply xs<;>intro _)<;>try omega | ((with_reducible refine bR 5 ?_);refine dz 36 5 w218_5 ?_) |refine fun (_ _:List Nat)=>?_
   exact⟨g,by omega,gx,St.tq S2 hsc cL⟩
end Go.Proofs.YtbceiadaihphaaaGreat
