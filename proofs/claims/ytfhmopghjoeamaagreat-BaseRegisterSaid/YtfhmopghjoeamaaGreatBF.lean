/-
  A part of the proof: contracts of inner functions.
-/
import Derived.Test.YtfhmopghjoeamaaGreatT9V
import Derived.Test.YtfhmopghjoeamaaGreatBW
import Derived.Test.YtfhmopghjoeamaaGreatAmZ4
import Derived.Test.YtfhmopghjoeamaaGreatAmV4
set_option linter.unusedVariables false
set_option linter.unusedSimpArgs false
namespace Go.Proofs.YtfhmopghjoeamaaGreat
open Go.Am
noncomputable def mR:List Value→Option (AP Value)
 | [.pointer (some ⟨b,0,none⟩),.int .i64 t]=>some (AP.row b fun (S:List Value) ro=>match (S[0]? : Option Value) with
  |some (.pointer (some ⟨p,0,none⟩))=>AP.row p fun (Q:List Value) SW=>match (Q[3]? : Option Value) with
   |some (.int .i64 k) => .pure (.int .i64 (IntKind.i64.wrap (IntKind.i64.wrap (k+t)-1)))
   | _ => .fail ""
  | _ => .fail "")
 | _=>none
set_option maxHeartbeats 4000000 in
theorem O5:bR Tryz.prog 130 mR:=by
 refine cW (O:=jD []) (bt .nil) cO ?_ ?_ ?_
 ·intro args m hm
  unfold mR at hm
  split at hm
  ·obtain rfl:=Option.some.inj hm
   refine nO fun S ro=>?_
   split
   ·refine nO fun S ro=>?_
    split
    ·exact .pure _
    ·exact .fail _
   ·exact .fail _
  ·simp at hm
 ·intro args m h v hm e
  unfold mR at hm
  split at hm
  ·obtain rfl:=Option.some.inj hm
   obtain⟨S,ro,hb,e⟩:=j6 e
   split at e
   ·obtain⟨Q,SW,hq,e⟩:=j6 e
    split at e
    ·rw[aO] at e;obtain rfl:=Option.some.inj e
     exact .int _ _
    ·simp[AP.look] at e
   ·simp[AP.look] at e
  ·simp at hm
 ·intro args m h N v hm hR hlt e
  unfold mR at hm
  split at hm
  ·rename_i b t
   obtain rfl:=Option.some.inj hm
   obtain⟨S,ro,hb,e⟩:=j6 e
   split at e
   ·rename_i p h0
    obtain⟨Q,SW,hq,e⟩:=j6 e
    split at e
    ·rename_i k h3
     rw[aO] at e;obtain rfl:=Option.some.inj e
     clear e hlt hR
     refine aB (N:=15) Tryz.func130 rfl rfl fun z hP hO hro hN hQ=>?_
     repeat' first |simp(maxSteps:=2000000) (disch:=first |omega |assumption) only[go_sem, *] | (apply xs<;>intro _)<;>try omega
     exact fun _ _=>trivial
    ·simp[AP.look] at e
   ·simp[AP.look] at e
  ·simp at hm
def uc:List Value→Option (AP Value)
 | [.int .u64 w]=>some (.pure (.int .i64 (IntKind.i64.wrap (w.tmod 65536))))
 | _=>none
theorem WG:bR Tryz.prog 129 uc:=by
 refine cW (O:=jD []) (bt .nil) cO ?_ ?_ ?_
 ·intro args m hm
  unfold uc at hm
  split at hm
  ·obtain rfl:=Option.some.inj hm;exact .pure _
  ·simp at hm
 ·intro args m h v hm e
  unfold uc at hm
  split at hm
  ·obtain rfl:=Option.some.inj hm
   rw[aO] at e;obtain rfl:=Option.some.inj e
   exact .int _ _
  ·simp at hm
 ·intro args m h N v hm hR hlt e
  unfold uc at hm
  split at hm
  ·rename_i w
   obtain rfl:=Option.some.inj hm
   rw[aO] at e;obtain rfl:=Option.some.inj e
   clear hlt hR
   refine aB (N:=6) Tryz.func129 rfl rfl fun z hP hO hro hN hQ=>?_
   repeat' first |simp(maxSteps:=2000000) (disch:=first |omega |assumption) only[go_sem, *] | (apply xs<;>intro _)<;>try omega
   first |exact⟨trivial,fun _ _=>trivial⟩ |exact fun _ _=>trivial
  ·simp at hm
noncomputable abbrev OB:Over:=jD [(65,gy),(69,kO),(67,kP),(68,nT),(23,Gp),(39,gi),(27,jy),(80,cR),(44,vG),(85,vC),(18,rA),(130,mR),(129,uc),(12,rZ)]
theorem oM:Gr OB:=⟨rfl,rfl,rfl,rfl,rfl⟩
theorem _root_.Go.Am.St.give {h:PT aj} {n i:Nat} {d:Rl→Nat} {C:Rl→Option aj} {B:aj} (S:St h n d C) (r:Rl) (e:h.get i=some B) (hi:∀ s D,C s=some D→d s≠i):St h n (upd d r i) (upd C r (some B)):=by
 refine⟨fun s D q=>?_,fun s t q1 q2 q=>?_,S.wf⟩
 ·unfold upd at q ⊢
  split at q
  ·rename_i c;rw[if_pos c];rw[←Option.some.inj q];exact e
  ·rename_i c;rw[if_neg c];exact S.get s D q
 ·unfold upd at q q1 q2
  by_cases c1:s=r
  ·by_cases c2:t=r
   ·rw[c1,c2]
   ·rw[if_pos c1,if_neg c2] at q
    rw[if_neg c2] at q2
    obtain⟨D,hD⟩:=Option.ne_none_iff_exists'.1 q2
    exact absurd q.symm (hi t D hD)
  ·by_cases c2:t=r
   ·rw[if_neg c1,if_pos c2] at q
    rw[if_neg c1] at q1
    obtain⟨D,hD⟩:=Option.ne_none_iff_exists'.1 q1
    exact absurd q (hi s D hD)
   ·rw[if_neg c1,if_neg c2] at q
    rw[if_neg c1] at q1
    rw[if_neg c2] at q2
    exact S.inj s t q1 q2 q
theorem _root_.Go.Am.St.all {h:PT aj} {n:Nat} (w:bX h n):St h n (fun r=>if r.1=9999 then r.2 else 0) (fun r=>if r.1=9999 then h.get r.2 else none):=by
 refine⟨fun r B q=>?_,fun r s q1 q2 q=>?_,w⟩
 ·split at q
  ·rename_i c;rw[if_pos c];exact q
  ·simp at q
 ·split at q1
  ·rename_i c1
   split at q2
   ·rename_i c2
    rw[if_pos c1,if_pos c2] at q
    exact Prod.ext (c1.trans c2.symm) q
   ·exact absurd rfl q2
  ·exact absurd rfl q1
structure Fz (h1:PT aj) (n1:Nat) (d:Rl→Nat) (C:Rl→Option aj):Prop where
 dz:∀ i,d (9999,i)=i
 cz:∀ i,C (9999,i)=h1.get i
 lo:∀ r B,r.1≠9999→C r=some B→n1≤d r
 wf:bX h1 n1
section
variable {h1 h:PT aj} {n1 n:Nat} {d:Rl→Nat} {C:Rl→Option aj}
theorem Fz.all (w:bX h1 n1):Fz h1 n1 (fun r=>if r.1=9999 then r.2 else 0) (fun r=>if r.1=9999 then h1.get r.2 else none):=
 ⟨fun i=>if_pos rfl,fun i=>if_pos rfl,fun r B c q=>by rw[if_neg c] at q;simp at q,w⟩
theorem Fz.kept (F:Fz h1 n1 d C) (S:St h n d C):Kept h1 h:=fun i B e=>by
 have:=S.get (9999,i) B (by rw[F.cz,e])
 rwa [F.dz] at this
theorem Fz.le (F:Fz h1 n1 d C) (S:St h n d C):∀ i B,h1.get i=some B→i<n:=fun i B e=>S.wf.lt (F.kept S i B e)
theorem Fz.new (F:Fz h1 n1 d C) {a b i:Nat} (ha:a≠9999) (hi:n1≤i) (X:Option aj):Fz h1 n1 (upd d (a,b) i) (upd C (a,b) X):=by
 refine⟨fun j=>?_,fun j=>?_,fun r B c q=>?_,F.wf⟩
 ·rw[aq (Ne.symm ha)];exact F.dz j
 ·rw[aq (Ne.symm ha)];exact F.cz j
 ·unfold upd at q ⊢
  split at q
  ·rename_i e;rw[if_pos e];exact hi
  ·rename_i e;rw[if_neg e];exact F.lo r B c q
theorem Fz.set (F:Fz h1 n1 d C) {a b:Nat} {A:aj} (ha:a≠9999) (e:C (a,b)=some A) (X:Option aj):Fz h1 n1 d (upd C (a,b) X):=by
 refine⟨F.dz,fun j=>?_,fun r B c q=>?_,F.wf⟩
 ·rw[aq (Ne.symm ha)];exact F.cz j
 ·unfold upd at q
  split at q
  ·rename_i e2;rw[e2];exact F.lo (a,b) A ha e
  ·exact F.lo r B c q
theorem Fz.eq (F:Fz h1 n1 d C) {d':Rl→Nat} {C':Rl→Option aj} (hd:∀ r,d' r=d r) (hc:∀ r,C' r=C r):Fz h1 n1 d' C':=by
 obtain rfl:d=d':=by funext r;rw[hd]
 obtain rfl:C=C':=by funext r;rw[hc]
 exact F
theorem Fz.mem (F:Fz h1 n1 d C) (S:St h n d C) {W W':List Int} {L L':List Value} {k k' g:Nat} (M:kR d C W L k) (hg:n1≤g):Fz h1 n1 (upd d rL g) (jz C (d rW) g W' L' k'):=by
 obtain⟨m1,m2,m3,m4⟩:=M
 unfold jz
 refine⟨fun j=>?_,fun j=>?_,fun r B c q=>?_,F.wf⟩
 ·rw[aq (by decide)];exact F.dz j
 ·rw[aq (by decide),aq (by decide),aq (by decide)];exact F.cz j
 ·by_cases c1:r=rL
  ·subst c1;rw[au];exact hg
  ·rw[Dh c1]
   unfold upd at q
   split at q
   ·rename_i e;subst e;exact F.lo _ _ c m1
   ·split at q
    ·rename_i e;subst e;exact F.lo _ _ c m2
    ·exact F.lo r B c q
end
theorem Gv {h:PT aj} {n b cap:Nat} {d:Rl→Nat} {C:Rl→Option aj} {W:List Int} {ro:Bool} (S:St h n d C) (hb:h.get b=Ol (W.map (.int .u64)) ro) (h1:0<W.length) (h2:W.length≤65536):
  cT Tryz.prog OB 35 [.slice (some ⟨b,0,none⟩) W.length cap] h n fun v h' n'=>v=oF [pt (n+1),I6 0]∧n'=n+2∧Kept h h'∧St h' n' (upd (upd d rW n) rM (n+1)) (upd (upd C rW (row (W.map (.int .u64)))) rM (row [.slice (some ⟨n,0,none⟩) W.length W.length,.slice none 0 0])):=by
 obtain⟨kk,v,h',n',e,rfl,rfl,q1,q2,q3,q4⟩:=Gs (O:=OB) rfl rfl b cap W ro h n S.wf hb h1 h2
 refine⟨kk,_,h',_,e,rfl,rfl,q3,((S.kept q3 q4).give rW q2 fun s D c=>?_).give rM q1 fun s D c=>?_⟩
 ·have:=S.lt c;omega
 ·by_cases c2:s=rW
  ·subst c2;rw[au];omega
  ·rw[Dh c2] at c ⊢
   have:=S.lt c;omega
theorem Gw {h h1:PT aj} {n n1 b cap:Nat} {d:Rl→Nat} {C:Rl→Option aj} {W:List Int} {ro:Bool} (S:St h n d C) (F:Fz h1 n1 d C) (hn:n1≤n) (hb:h.get b=Ol (W.map (.int .u64)) ro) (Kh:0<W.length) (Du:W.length≤65536):
  cT Tryz.prog OB 35 [.slice (some ⟨b,0,none⟩) W.length cap] h n fun v h' n'=>∃ d' C',v=oF [pt (d' rM),I6 0]∧n≤n'∧Kept h h'∧St h' n' d' C'∧Fz h1 n1 d' C'∧kR d' C' W [] 0∧(∀ a b,2<a→d' (a,b)=d (a,b)∧C' (a,b)=C (a,b)):=by
 refine(Gv S hb Kh Du).mono ?_
 rintro v h' n' ⟨rfl,rfl,k,S'⟩
 refine⟨_,_,by simp(disch:=first |decide |assumption |omega) only[rM,rW,rL,au,aq,aJ,aH],by omega,k,S',(F.new (a:=1) (by decide) (by omega) _).new (a:=0) (by decide) (by omega) _,⟨by simp(disch:=first |decide |assumption |omega) only[rM,rW,rL,au,aq,aJ,aH];rfl,by simp(disch:=first |decide |assumption |omega) only[rM,rW,rL,au,aq,aJ,aH],.inl ⟨rfl,rfl⟩,rfl⟩,fun a b c=>⟨by simp(disch:=first |decide |assumption |omega) only[rM,rW,rL,au,aq,aJ,aH],by simp(disch:=first |decide |assumption |omega) only[rM,rW,rL,au,aq,aJ,aH]⟩⟩
theorem kR.of {d d':Rl→Nat} {C C':Rl→Option aj} {W:List Int} {L:List Value} {k:Nat} (M:kR d C W L k) (hd:∀ a,a<3→d' (a,0)=d (a,0)∧C' (a,0)=C (a,0)):kR d' C' W L k:=by
 obtain⟨m1,m2,m3,m4⟩:=M
 refine⟨?_,?_,?_,m4⟩
 ·rw[(hd 0 (by omega)).2,(hd 1 (by omega)).1,(hd 2 (by omega)).1];exact m1
 ·rw[(hd 1 (by omega)).2];exact m2
 ·rw[(hd 2 (by omega)).2];exact m3
end Go.Proofs.YtfhmopghjoeamaaGreat
set_option linter.unusedVariables false
set_option linter.unusedSimpArgs false
namespace Go.Proofs.YtfhmopghjoeamaaGreat
open Go.Am
def LP (p:Int×Bool):List Value:=[.int .u64 p.1,.bool p.2]
def O6 (P:List (Int×Bool)):List Value:=P.flatMap LP
theorem DF (p:Int×Bool) (P:List (Int×Bool)):O6 (p::P) = .int .u64 p.1 :: .bool p.2::O6 P:=by simp[O6,LP]
structure O7 (d:Rl→Nat) (C:Rl→Option aj) (base:Int) (n:Nat) (N:List Int) (B:List Bool):Prop where
 O8:C (4,0)=row [.iface 169 (.agg ⟨[.iface 163 (pt (d (5,0)))]⟩),U8 1,I6 n]
 WH:C (5,0)=row [pt (d rM),I6 base,.slice (some ⟨d (6,0),0,none⟩) n n,.slice (some ⟨d (7,0),0,none⟩) n n]
 nums:C (6,0)=row (N.map (.int .u64))
 begun:C (7,0)=row (B.map .bool)
 afa:N.length=n
 afb:B.length=n
structure O9 (d:Rl→Nat) (C:Rl→Option aj) (base:Int) (n:Nat) (P:List (Int×Bool)):Prop where
 O8:C (4,0)=row [.iface 176 (.agg ⟨[.iface 170 (pt (d (5,0)))]⟩),U8 2,I6 n]
 WH:C (5,0)=row [pt (d rM),.slice (some ⟨d (6,0),0,none⟩) n n,.func (.func 110) ⟨[]⟩ ⟨[pt (d (7,0))]⟩]
 slots:C (6,0)=row (O6 P)
 base:C (7,0)=row [I6 base]
 len:P.length=n
structure O_ (d:Rl→Nat) (C:Rl→Option aj) (base:Int) (nb n:Nat) (X:List bp) (ck:Nat):Prop where
 O8:C (4,0)=row [.iface 183 (.agg ⟨[.iface 177 (pt (d (5,0)))]⟩),U8 3,I6 n]
 WH:C (5,0)=row [pt (d rM),I6 base,I6 nb,.map (some (d (6,0)))]
 secs:C (6,0)=some (.map (bA .i64 X) ck)
theorem ud (m:Nat):rep [Value.int .u64 0] m=(List.replicate m (0:Int)).map (.int .u64):=by rw[mQ,List.map_replicate]
theorem uf (m:Nat):rep [Value.bool false] m=(List.replicate m false).map .bool:=by rw[mQ,List.map_replicate]
theorem pq:∀ m,rep [Value.int .u64 0,.bool false] m=O6 (List.replicate m (0,false))
 |0=>rfl
 |m+1=>by rw[rep,pq m,List.replicate_succ,DF];rfl
set_option maxRecDepth 100000 in
set_option maxHeartbeats 8000000 in
theorem Pa {h:PT aj} {ns ba nn:Nat} {d:Rl→Nat} {C:Rl→Option aj} {W:List Int} {L:List Value} {k:Nat} (S:St h nn d C) (M:kR d C W L k) (Iw:0<ns∧ns≤64) (hW:ba+ns≤W.length) (AG:W.length≤65536):
  cT Tryz.prog OB 38 [pt (d rM),U8 1,I6 ba,I6 ns,I6 0] h nn fun r h' n'=>∃ d' C',r=oF [pt (d' (4,0)),I6 0]∧St h' n' d' C'∧O7 d' C' ba ns (List.replicate ns 0) (List.replicate ns false)∧(∀ a b,a≠4→a≠5→a≠6→a≠7→d' (a,b)=d (a,b)∧C' (a,b)=C (a,b))∧(∀ h1 n1,n1≤nn→Fz h1 n1 d C→Fz h1 n1 d' C'):=by
 obtain⟨m1,m2,m3,m4⟩:=M
 have g0:=S.at m1
 have gw:=S.at m2
 have n0:=S.lt m1
 have nw:=S.lt m2
 have hg:=eP (W:=W) (i:=ba+ns-1) (by omega)
 obtain⟨hn1,hn2⟩:=Iw
 have hz:=ud ns
 have OY:=uf ns
 have hz3:=pq ns
 have hc0: ¬ (ns:Int)<1:=by omega
 have hc1: ¬ (64:Int)<ns:=by omega
 have Mz:((ba+ns-1:Nat):Int)<((W.length:Nat):Int):=by omega
 have WI:(0:Int)≤((ba+ns-1:Nat):Int):=by omega
 have hc5:((ba:Int)+(ns:Int)-1).toNat=ba+ns-1:=by omega
 have hc6:(ba:Int)+(ns:Int)-1<((W.length:Nat):Int):=by omega
 have Tf:Nat.ble ns 1048576=true:=Nat.ble_eq_true_of_le (by omega)
 generalize W[ba+ns-1]=y at*
 clear m1 m2 m3 m4
 refine aB (N:=86) Tryz.func38 rfl rfl fun z hP hO hro hN hQ=>?_
 repeat' first |simp(maxSteps:=2000000) (disch:=first |omega |assumption) only[go_sem, *] | (apply xs<;>intro _)<;>try omega | ((with_reducible refine dA 11 ?_);refine dw 47 11 yj (by first | (simp only[go_sem, *];done) |rfl) (by kernel_rfl) (by kernel_rfl) ?_) |refine fun (_ _:List Nat)=>?_ | (first |refine aC Tryz.func73 rfl ?_ ?_ ?_ ?_ |refine aC Tryz.func107 rfl ?_ ?_ ?_ ?_ |refine aC Tryz.func108 rfl ?_ ?_ ?_ ?_ |refine aC Tryz.func109 rfl ?_ ?_ ?_ ?_ |refine aC Tryz.func74 rfl ?_ ?_ ?_ ?_ |refine aC Tryz.func75 rfl ?_ ?_ ?_ ?_ |refine aC Tryz.func76 rfl ?_ ?_ ?_ ?_ |refine aC Tryz.func72 rfl ?_ ?_ ?_ ?_ |refine aC Tryz.func42 rfl ?_ ?_ ?_ ?_ |refine aC Tryz.func41 rfl ?_ ?_ ?_ ?_ |fail)<;>intros
 refine⟨_,_,by simp(disch:=first |decide |assumption |omega) only[rM,rW,rL,au,aq,aJ,aH],((((S.new (4,0) _ (Nat.le_refl _) (Nat.lt_succ_self _)).new (6,0) _ (Nat.le_refl _) (Nat.lt_succ_self _)).new (7,0) _ (Nat.le_refl _) (Nat.lt_succ_self _)).new (5,0) _ (Nat.le_refl _) (Nat.lt_succ_self _)).set (4,0) _ (by (simp(disch:=first |decide |assumption |omega) only[rM,rW,rL,au,aq,aJ,aH])<;>rfl) (by (simp(disch:=first |decide |assumption |omega) only[rM,rW,rL,au,aq,aJ,aH])<;>rfl),⟨by (simp(disch:=first |decide |assumption |omega) only[rM,rW,rL,au,aq,aJ,aH])<;>rfl,by (simp(disch:=first |decide |assumption |omega) only[rM,rW,rL,au,aq,aJ,aH])<;>rfl,by (simp(disch:=first |decide |assumption |omega) only[rM,rW,rL,au,aq,aJ,aH])<;>rfl,by (simp(disch:=first |decide |assumption |omega) only[rM,rW,rL,au,aq,aJ,aH])<;>rfl,List.length_replicate,List.length_replicate⟩,fun a b c1 c2 c3 c4=>⟨by simp(disch:=first |decide |assumption |omega) only[rM,rW,rL,au,aq,aJ,aH],by simp(disch:=first |decide |assumption |omega) only[rM,rW,rL,au,aq,aJ,aH]⟩,fun h1 n1 hn F=>((((F.new (a:=4) (by decide) (by omega) _).new (a:=6) (by decide) (by omega) _).new (a:=7) (by decide) (by omega) _).new (a:=5) (by decide) (by omega) _).set (a:=4) (by decide) (by (simp(disch:=first |decide |assumption |omega) only[rM,rW,rL,au,aq,aJ,aH])<;>rfl) _⟩
set_option maxRecDepth 100000 in
set_option maxHeartbeats 8000000 in
theorem Pb {h:PT aj} {ns ba nn:Nat} {d:Rl→Nat} {C:Rl→Option aj} {W:List Int} {L:List Value} {k:Nat} (S:St h nn d C) (M:kR d C W L k) (Iw:0<ns∧ns≤64) (hW:ba+2*ns≤W.length) (AG:W.length≤65536):
  cT Tryz.prog OB 38 [pt (d rM),U8 2,I6 ba,I6 ns,I6 0] h nn fun r h' n'=>∃ d' C',r=oF [pt (d' (4,0)),I6 0]∧St h' n' d' C'∧O9 d' C' ba ns (List.replicate ns (0,false))∧(∀ a b,a≠4→a≠5→a≠6→a≠7→d' (a,b)=d (a,b)∧C' (a,b)=C (a,b))∧(∀ h1 n1,n1≤nn→Fz h1 n1 d C→Fz h1 n1 d' C'):=by
 obtain⟨m1,m2,m3,m4⟩:=M
 have g0:=S.at m1
 have gw:=S.at m2
 have n0:=S.lt m1
 have nw:=S.lt m2
 have hg:=eP (W:=W) (i:=ba+2*ns-1) (by omega)
 obtain⟨hn1,hn2⟩:=Iw
 have hz:=ud ns
 have OY:=uf ns
 have hz3:=pq ns
 have hc0: ¬ (ns:Int)<1:=by omega
 have hc1: ¬ (64:Int)<ns:=by omega
 have Mz:((ba+2*ns-1:Nat):Int)<((W.length:Nat):Int):=by omega
 have WI:(0:Int)≤((ba+2*ns-1:Nat):Int):=by omega
 have hc5:((ba:Int)+2*(ns:Int)-1).toNat=ba+2*ns-1:=by omega
 have hc6:(ba:Int)+2*(ns:Int)-1<((W.length:Nat):Int):=by omega
 have Tf:Nat.ble ns 1048576=true:=Nat.ble_eq_true_of_le (by omega)
 generalize W[ba+2*ns-1]=y at*
 clear m1 m2 m3 m4
 refine aB (N:=86) Tryz.func38 rfl rfl fun z hP hO hro hN hQ=>?_
 repeat' first |simp(maxSteps:=2000000) (disch:=first |omega |assumption) only[go_sem, *] | (apply xs<;>intro _)<;>try omega | ((with_reducible refine dA 11 ?_);refine dw 47 11 yj (by first | (simp only[go_sem, *];done) |rfl) (by kernel_rfl) (by kernel_rfl) ?_) |refine fun (_ _:List Nat)=>?_ | (first |refine aC Tryz.func73 rfl ?_ ?_ ?_ ?_ |refine aC Tryz.func107 rfl ?_ ?_ ?_ ?_ |refine aC Tryz.func108 rfl ?_ ?_ ?_ ?_ |refine aC Tryz.func109 rfl ?_ ?_ ?_ ?_ |refine aC Tryz.func74 rfl ?_ ?_ ?_ ?_ |refine aC Tryz.func75 rfl ?_ ?_ ?_ ?_ |refine aC Tryz.func76 rfl ?_ ?_ ?_ ?_ |refine aC Tryz.func72 rfl ?_ ?_ ?_ ?_ |refine aC Tryz.func42 rfl ?_ ?_ ?_ ?_ |refine aC Tryz.func41 rfl ?_ ?_ ?_ ?_ |fail)<;>intros
 refine⟨_,_,by simp(disch:=first |decide |assumption |omega) only[rM,rW,rL,au,aq,aJ,aH],((((S.new (4,0) _ (Nat.le_refl _) (Nat.lt_succ_self _)).new (7,0) _ (Nat.le_refl _) (Nat.lt_succ_self _)).new (6,0) _ (Nat.le_refl _) (Nat.lt_succ_self _)).new (5,0) _ (Nat.le_refl _) (Nat.lt_succ_self _)).set (4,0) _ (by (simp(disch:=first |decide |assumption |omega) only[rM,rW,rL,au,aq,aJ,aH])<;>rfl) (by (simp(disch:=first |decide |assumption |omega) only[rM,rW,rL,au,aq,aJ,aH])<;>rfl),⟨by (simp(disch:=first |decide |assumption |omega) only[rM,rW,rL,au,aq,aJ,aH])<;>rfl,by (simp(disch:=first |decide |assumption |omega) only[rM,rW,rL,au,aq,aJ,aH])<;>rfl,by (simp(disch:=first |decide |assumption |omega) only[rM,rW,rL,au,aq,aJ,aH])<;>rfl,by (simp(disch:=first |decide |assumption |omega) only[rM,rW,rL,au,aq,aJ,aH])<;>rfl,List.length_replicate⟩,fun a b c1 c2 c3 c4=>⟨by simp(disch:=first |decide |assumption |omega) only[rM,rW,rL,au,aq,aJ,aH],by simp(disch:=first |decide |assumption |omega) only[rM,rW,rL,au,aq,aJ,aH]⟩,fun h1 n1 hn F=>((((F.new (a:=4) (by decide) (by omega) _).new (a:=7) (by decide) (by omega) _).new (a:=6) (by decide) (by omega) _).new (a:=5) (by decide) (by omega) _).set (a:=4) (by decide) (by (simp(disch:=first |decide |assumption |omega) only[rM,rW,rL,au,aq,aJ,aH])<;>rfl) _⟩
set_option maxRecDepth 100000 in
set_option maxHeartbeats 8000000 in
theorem Pc {h:PT aj} {ns ba nb nn:Nat} {d:Rl→Nat} {C:Rl→Option aj} {W:List Int} {L:List Value} {k:Nat} (S:St h nn d C) (M:kR d C W L k) (Iw:0<ns∧ns≤64) (hnb:0<nb∧nb≤16) (hW:ba+4*nb≤W.length) (AG:W.length≤65536):
  cT Tryz.prog OB 38 [pt (d rM),U8 3,I6 ba,I6 ns,I6 nb] h nn fun r h' n'=>∃ d' C',r=oF [pt (d' (4,0)),I6 0]∧St h' n' d' C'∧O_ d' C' ba nb ns [] 0∧(∀ a b,a≠4→a≠5→a≠6→a≠7→d' (a,b)=d (a,b)∧C' (a,b)=C (a,b))∧(∀ h1 n1,n1≤nn→Fz h1 n1 d C→Fz h1 n1 d' C'):=by
 obtain⟨m1,m2,m3,m4⟩:=M
 have g0:=S.at m1
 have gw:=S.at m2
 have n0:=S.lt m1
 have nw:=S.lt m2
 have hg:=eP (W:=W) (i:=ba+4*nb-1) (by omega)
 obtain⟨hn1,hn2⟩:=Iw
 have hz:=ud ns
 have OY:=uf ns
 have hz3:=pq ns
 have hc0: ¬ (ns:Int)<1:=by omega
 have hc1: ¬ (64:Int)<ns:=by omega
 have Mz:((ba+4*nb-1:Nat):Int)<((W.length:Nat):Int):=by omega
 have WI:(0:Int)≤((ba+4*nb-1:Nat):Int):=by omega
 have hc5:((ba:Int)+4*(nb:Int)-1).toNat=ba+4*nb-1:=by omega
 have hc6:(ba:Int)+4*(nb:Int)-1<((W.length:Nat):Int):=by omega
 have Tf:Nat.ble ns 1048576=true:=Nat.ble_eq_true_of_le (by omega)
 generalize W[ba+4*nb-1]=y at*
 clear m1 m2 m3 m4
 refine aB (N:=86) Tryz.func38 rfl rfl fun z hP hO hro hN hQ=>?_
 repeat' first |simp(maxSteps:=2000000) (disch:=first |omega |assumption) only[go_sem, *] | (apply xs<;>intro _)<;>try omega | ((with_reducible refine dA 11 ?_);refine dw 47 11 yj (by first | (simp only[go_sem, *];done) |rfl) (by kernel_rfl) (by kernel_rfl) ?_) |refine fun (_ _:List Nat)=>?_ | (first |refine aC Tryz.func73 rfl ?_ ?_ ?_ ?_ |refine aC Tryz.func107 rfl ?_ ?_ ?_ ?_ |refine aC Tryz.func108 rfl ?_ ?_ ?_ ?_ |refine aC Tryz.func109 rfl ?_ ?_ ?_ ?_ |refine aC Tryz.func74 rfl ?_ ?_ ?_ ?_ |refine aC Tryz.func75 rfl ?_ ?_ ?_ ?_ |refine aC Tryz.func76 rfl ?_ ?_ ?_ ?_ |refine aC Tryz.func72 rfl ?_ ?_ ?_ ?_ |refine aC Tryz.func42 rfl ?_ ?_ ?_ ?_ |refine aC Tryz.func41 rfl ?_ ?_ ?_ ?_ |fail)<;>intros
 refine⟨_,_,by simp(disch:=first |decide |assumption |omega) only[rM,rW,rL,au,aq,aJ,aH],(((S.new (4,0) _ (Nat.le_refl _) (Nat.lt_succ_self _)).new (6,0) _ (Nat.le_refl _) (Nat.lt_succ_self _)).new (5,0) _ (Nat.le_refl _) (Nat.lt_succ_self _)).set (4,0) _ (by (simp(disch:=first |decide |assumption |omega) only[rM,rW,rL,au,aq,aJ,aH])<;>rfl) (by (simp(disch:=first |decide |assumption |omega) only[rM,rW,rL,au,aq,aJ,aH])<;>rfl),⟨by (simp(disch:=first |decide |assumption |omega) only[rM,rW,rL,au,aq,aJ,aH])<;>rfl,by (simp(disch:=first |decide |assumption |omega) only[rM,rW,rL,au,aq,aJ,aH])<;>rfl,by (simp(disch:=first |decide |assumption |omega) only[rM,rW,rL,au,aq,aJ,aH])<;>rfl⟩,fun a b c1 c2 c3 c4=>⟨by simp(disch:=first |decide |assumption |omega) only[rM,rW,rL,au,aq,aJ,aH],by simp(disch:=first |decide |assumption |omega) only[rM,rW,rL,au,aq,aJ,aH]⟩,fun h1 n1 hn F=>(((F.new (a:=4) (by decide) (by omega) _).new (a:=6) (by decide) (by omega) _).new (a:=5) (by decide) (by omega) _).set (a:=4) (by decide) (by (simp(disch:=first |decide |assumption |omega) only[rM,rW,rL,au,aq,aJ,aH])<;>rfl) _⟩
end Go.Proofs.YtfhmopghjoeamaaGreat
set_option linter.unusedVariables false
set_option linter.unusedSimpArgs false
namespace Go.Proofs.YtfhmopghjoeamaaGreat
open Go.Am
structure H_ (d:Rl→Nat) (C:Rl→Option aj) (lb:Nat) (l:bZ) (mk ev:Value) (R:List bp) (rk:Nat) (X:List bp) (xk:Nat) (G:List Int):Prop where
 base:C (70,0)=row [pt lb,pt (d rM),pt (d (75,0)),pt (d (78,0)),pt (d (4,0)),mk,ev,.map (some (d (73,0))),.map (some (d (74,0)))]
 reg:C (74,0)=some (.map (bA .i64 R) rk)
 pool:C (75,0)=row [pt (d rM),pt lb,I6 (l.P.getD 5 0),I6 (l.P.getD 6 0),.map (some (d (76,0))),.slice (some ⟨d (77,0),0,none⟩) G.length G.length]
 out:C (76,0)=some (.map (bA .i64 X) xk)
 DG:C (77,0)=row (G.map (.int .i64))
 tow:C (78,0)=row [pt (d rM),pt lb]
 vals:∃ v,C (73,0)=some v
theorem ug (m:Nat):rep [Value.int .i64 0] m=(List.replicate m (0:Int)).map (.int .i64):=by rw[mQ,List.map_replicate]
set_option maxRecDepth 100000 in
set_option maxHeartbeats 8000000 in
theorem DH {h h1:PT aj} {n n1 lb sz:Nat} {d:Rl→Nat} {C:Rl→Option aj} {W:List Int} {L:List Value} {k:Nat} {l:bZ} {V:Int} (S:St h n d C) (F:Fz h1 n1 d C) (M:kR d C W L k) (hl0:(rB (pt lb)).look h1=some l) (hn:DA l V sz) (hW:W.length=sz):
  cT Tryz.prog OB 36 [pt (d rM),pt lb] h n fun r h' n'=>∃ d' C',r=oF [pt (d' (75,0)),I6 0]∧St h' n' d' C'∧Fz h1 n1 d' C'∧n≤n'∧
   C' (75,0)=row [pt (d' rM),pt lb,I6 (l.P.getD 5 0),I6 (l.P.getD 6 0),.map (some (d' (76,0))),.slice (some ⟨d' (77,0),0,none⟩) l.H.length l.H.length]∧C' (76,0)=some (.map (bA .i64 []) 0)∧C' (77,0)=row ((List.replicate l.H.length (0:Int)).map (.int .i64))∧
   (∀ a b,a≠75→a≠76→a≠77→d' (a,b)=d (a,b)∧C' (a,b)=C (a,b)):=by
 obtain⟨m1,m2,m3,m4⟩:=M
 have g0:=S.at m1
 have gw:=S.at m2
 have n0:=S.lt m1
 have nw:=S.lt m2
 have l0:=F.lo _ _ (by decide) m1
 have lw:=F.lo _ _ (by decide) m2
 have K:=F.kept S
 have Wf:=F.wf
 have hrl:=fun h' hk z f d ops r K m n=>@dg _ _ _ _ h' hl0 z f d ops r K m n hk
 have WJ:=fun h' hk z L f d ops r K m n lo rd wr fs=>@j7 _ _ _ _ h' hl0 z L f d ops r K m n lo rd wr fs hk
 have Bl:=fun h' lo hi hk hl=>@qD _ _ _ _ h' _ lo hi hl0 F.wf hk hl
 have hlen:=hn.L5.len
 have WK:=hn.Wv
 have AI:=hn.SX
 obtain⟨q0,q1,q2,q3,q4,q5,q6,q7,q8,hP⟩:=hn.PL
 have hz:=ug l.H.length
 have Kf:l.H.length.ble 1048576=true:=Nat.ble_eq_true_of_le (by omega)
 have hg:=eP (W:=W) (i:=sz-1) (by omega)
 have n1n:n1≤n:=by omega
 have hP5:l.P.getD 5 0=q5:=by rw[hP];rfl
 have Ww:l.P.getD 6 0=q6:=by rw[hP];rfl
 rw[hP5,Ww]
 have yt:l.P.map (Value.int .i64)=[I6 q0,I6 q1,I6 q2,I6 q3,I6 q4,I6 q5,I6 q6,I6 q7,I6 q8,I6 sz]:=by rw[hP];rfl
 rw[hW] at g0
 have hc1:(sz:Int)-1=((sz-1:Nat):Int):=by omega
 have Mz:((sz-1:Nat):Int)<(sz:Int):=by omega
 have WI:(0:Int)≤((sz-1:Nat):Int):=by omega
 have hc4: ¬ (sz:Int)<(sz:Int):=by omega
 generalize W[sz-1]=y at*
 clear m1 m2 m3 m4 hP hn hP5 Ww hl0
 refine aB (N:=49) Tryz.func36 rfl rfl fun z hP hO hro hN hQ=>?_
 repeat' first |simp(maxSteps:=2000000) (disch:=first |omega | (repeat first |assumption |exact Kept.refl _ |refine Kept.set' (by assumption) ?_ ?_ |refine Kept.set (by assumption) ?_ ?_ |omega)) only[go_sem, *,gi,jy] | (apply xs<;>intro _)<;>try omega | ((with_reducible refine dA 10 ?_);refine dw 49 10 JW (by first | (simp only[go_sem, *];done) |rfl) (by kernel_rfl) (by kernel_rfl) ?_) |refine fun (_ _:List Nat)=>?_ | (first |refine aC Tryz.func72 rfl ?_ ?_ ?_ ?_ |refine aC Tryz.func42 rfl ?_ ?_ ?_ ?_ |refine aC Tryz.func41 rfl ?_ ?_ ?_ ?_ |fail)<;>intros
 exact⟨_,_,by simp(disch:=first |decide |assumption |omega) only[rM,rW,rL,au,aq,aJ,aH],(((S.Ot (Nat.le_refl _) (Nat.lt_succ_self _)).new (76,0) _ (Nat.le_refl _) (Nat.lt_succ_self _)).new (77,0) _ (Nat.le_refl _) (Nat.lt_succ_self _)).new (75,0) _ (Nat.le_refl _) (Nat.lt_succ_self _),((F.new (a:=76) (by decide) (by omega) _).new (a:=77) (by decide) (by omega) _).new (a:=75) (by decide) (by omega) _,by omega,by simp(disch:=first |decide |assumption |omega) only[rM,rW,rL,au,aq,aJ,aH],by simp(disch:=first |decide |assumption |omega) only[rM,rW,rL,au,aq,aJ,aH];rfl,by simp(disch:=first |decide |assumption |omega) only[rM,rW,rL,au,aq,aJ,aH],fun a b c1 c2 c3=>⟨by simp(disch:=first |decide |assumption |omega) only[rM,rW,rL,au,aq,aJ,aH],by simp(disch:=first |decide |assumption |omega) only[rM,rW,rL,au,aq,aJ,aH]⟩⟩
end Go.Proofs.YtfhmopghjoeamaaGreat
