/-
  A part of the proof: contracts of inner functions.
-/
import Derived.Test.YtofmbmclopgldaaGreatT9V
import Derived.Test.YtofmbmclopgldaaGreatBW
import Derived.Test.YtofmbmclopgldaaGreatAmZ4
import Derived.Test.YtofmbmclopgldaaGreatAmV4
import Derived.Test.YtofmbmclopgldaaGreatSB3
import Derived.Test.YtofmbmclopgldaaGreatT9D
set_option linter.unusedVariables false
set_option linter.unusedSimpArgs false
namespace Go.Proofs.YtofmbmclopgldaaGreat
open Go.Am
noncomputable def oW:List Value→Option (AP Value)
 | [.pointer (some ⟨b,0,none⟩),.int .i64 t]=>some (AP.row b fun (S:List Value) ro=>match (S[0]? : Option Value) with
  |some (.pointer (some ⟨p,0,none⟩))=>AP.row p fun (Q:List Value) Cr=>match (Q[3]? : Option Value) with
   |some (.int .i64 k) => .pure (.int .i64 (IntKind.i64.wrap (IntKind.i64.wrap (k+t)-1)))
   | _ => .fail ""
  | _ => .fail "")
 | _=>none
set_option maxHeartbeats 4000000 in
theorem UX:bf Tryz.prog 231 oW:=by
 refine bp (O:=eN []) (aN .nil) bA ?_ ?_ ?_
 ·intro args m hm
  unfold oW at hm
  split at hm
  ·obtain rfl:=Option.some.inj hm
   refine cQ fun S ro=>?_
   split
   ·refine cQ fun S ro=>?_
    split
    ·exact .pure _
    ·exact .fail _
   ·exact .fail _
  ·simp at hm
 ·intro args m h v hm e
  unfold oW at hm
  split at hm
  ·obtain rfl:=Option.some.inj hm
   obtain⟨S,ro,hb,e⟩:=bV e
   split at e
   ·obtain⟨Q,Cr,hq,e⟩:=bV e
    split at e
    ·rw[aC] at e;obtain rfl:=Option.some.inj e
     exact .int _ _
    ·simp[AP.look] at e
   ·simp[AP.look] at e
  ·simp at hm
 ·intro args m h N v hm hR hlt e
  unfold oW at hm
  split at hm
  ·rename_i b t
   obtain rfl:=Option.some.inj hm
   obtain⟨S,ro,hb,e⟩:=bV e
   split at e
   ·rename_i p h0
    obtain⟨Q,Cr,hq,e⟩:=bV e
    split at e
    ·rename_i k h3
     rw[aC] at e;obtain rfl:=Option.some.inj e
     clear e hlt hR
     refine ay (N:=15) Tryz.func231 rfl rfl fun z hP hO hro hN hQ=>?_
     repeat' first |simp(maxSteps:=2000000) (disch:=first |omega |assumption) only[go_sem, *] | (apply xs<;>intro _)<;>try omega
     exact fun _ _=>trivial
    ·simp[AP.look] at e
   ·simp[AP.look] at e
  ·simp at hm
def wZ:List Value→Option (AP Value)
 | [.int .u64 w]=>some (.pure (.int .i64 (IntKind.i64.wrap (w.tmod 65536))))
 | _=>none
theorem acP:bf Tryz.prog 230 wZ:=by
 refine bp (O:=eN []) (aN .nil) bA ?_ ?_ ?_
 ·intro args m hm
  unfold wZ at hm
  split at hm
  ·obtain rfl:=Option.some.inj hm;exact .pure _
  ·simp at hm
 ·intro args m h v hm e
  unfold wZ at hm
  split at hm
  ·obtain rfl:=Option.some.inj hm
   rw[aC] at e;obtain rfl:=Option.some.inj e
   exact .int _ _
  ·simp at hm
 ·intro args m h N v hm hR hlt e
  unfold wZ at hm
  split at hm
  ·rename_i w
   obtain rfl:=Option.some.inj hm
   rw[aC] at e;obtain rfl:=Option.some.inj e
   clear hlt hR
   refine ay (N:=6) Tryz.func230 rfl rfl fun z hP hO hro hN hQ=>?_
   repeat' first |simp(maxSteps:=2000000) (disch:=first |omega |assumption) only[go_sem, *] | (apply xs<;>intro _)<;>try omega
   first |exact⟨trivial,fun _ _=>trivial⟩ |exact fun _ _=>trivial
  ·simp at hm
noncomputable abbrev OB:Over:=eN [(108,iV),(111,mV),(78,mW),(110,pW),(22,HE),(50,iL),(115,kN),(102,dP),(57,qK),(105,yW),(16,uv),(231,oW),(230,wZ),(169,gD),(93,ji),(89,mA),(209,pZ),(100,gR),(210,Bq),(216,ng),(37,Bw),(217,zh),(219,zi),(218,zj),(19,Cu),(21,Cv),(11,Cw),(15,wY),(25,tT),(38,oU),(149,tV),(150,tW),(85,oV),(10,qB),(36,qB)]
theorem _root_.Go.Am.St.give {h:PT ak} {n i:Nat} {d:Rl→Nat} {C:Rl→Option ak} {B:ak} (S:St h n d C) (r:Rl) (e:h.get i=some B) (hi:∀ s D,C s=some D→d s≠i):St h n (upd d r i) (upd C r (some B)):=by
 refine⟨fun s D q=>?_,fun s t q1 q2 q=>?_,S.wf⟩
 ·unfold upd at q ⊢
  split at q
  ·rename_i c;rw[if_pos c];rw[←Option.some.inj q];exact e
  ·rename_i c;rw[if_neg c];exact S.get s D q
 ·unfold upd at q q1 q2
  by_cases c1:s=r
  ·by_cases c2:t=r
   ·rw[c1,c2]
   ·rw[if_pos c1,if_neg c2] at q
    rw[if_neg c2] at q2
    obtain⟨D,hD⟩:=Option.ne_none_iff_exists'.1 q2
    exact absurd q.symm (hi t D hD)
  ·by_cases c2:t=r
   ·rw[if_neg c1,if_pos c2] at q
    rw[if_neg c1] at q1
    obtain⟨D,hD⟩:=Option.ne_none_iff_exists'.1 q1
    exact absurd q (hi s D hD)
   ·rw[if_neg c1,if_neg c2] at q
    rw[if_neg c1] at q1
    rw[if_neg c2] at q2
    exact S.inj s t q1 q2 q
theorem _root_.Go.Am.St.all {h:PT ak} {n:Nat} (w:bL h n):St h n (fun r=>if r.1=9999 then r.2 else 0) (fun r=>if r.1=9999 then h.get r.2 else none):=by
 refine⟨fun r B q=>?_,fun r s q1 q2 q=>?_,w⟩
 ·split at q
  ·rename_i c;rw[if_pos c];exact q
  ·simp at q
 ·split at q1
  ·rename_i c1
   split at q2
   ·rename_i c2
    rw[if_pos c1,if_pos c2] at q
    exact Prod.ext (c1.trans c2.symm) q
   ·exact absurd rfl q2
  ·exact absurd rfl q1
structure Fz (h1:PT ak) (n1:Nat) (d:Rl→Nat) (C:Rl→Option ak):Prop where
 dz:∀ i,d (9999,i)=i
 cz:∀ i,C (9999,i)=h1.get i
 lo:∀ r B,r.1≠9999→C r=some B→n1≤d r
 wf:bL h1 n1
section
variable {h1 h:PT ak} {n1 n:Nat} {d:Rl→Nat} {C:Rl→Option ak}
theorem Fz.all (w:bL h1 n1):Fz h1 n1 (fun r=>if r.1=9999 then r.2 else 0) (fun r=>if r.1=9999 then h1.get r.2 else none):=
 ⟨fun i=>if_pos rfl,fun i=>if_pos rfl,fun r B c q=>by rw[if_neg c] at q;simp at q,w⟩
theorem Fz.kept (F:Fz h1 n1 d C) (S:St h n d C):Kept h1 h:=fun i B e=>by
 have:=S.get (9999,i) B (by rw[F.cz,e])
 rwa [F.dz] at this
theorem Fz.new (F:Fz h1 n1 d C) {a b i:Nat} (ha:a≠9999) (hi:n1≤i) (X:Option ak):Fz h1 n1 (upd d (a,b) i) (upd C (a,b) X):=by
 refine⟨fun j=>?_,fun j=>?_,fun r B c q=>?_,F.wf⟩
 ·rw[aq (Ne.symm ha)];exact F.dz j
 ·rw[aq (Ne.symm ha)];exact F.cz j
 ·unfold upd at q ⊢
  split at q
  ·rename_i e;rw[if_pos e];exact hi
  ·rename_i e;rw[if_neg e];exact F.lo r B c q
theorem Fz.set (F:Fz h1 n1 d C) {a b:Nat} {A:ak} (ha:a≠9999) (e:C (a,b)=some A) (X:Option ak):Fz h1 n1 d (upd C (a,b) X):=by
 refine⟨F.dz,fun j=>?_,fun r B c q=>?_,F.wf⟩
 ·rw[aq (Ne.symm ha)];exact F.cz j
 ·unfold upd at q
  split at q
  ·rename_i e2;rw[e2];exact F.lo (a,b) A ha e
  ·exact F.lo r B c q
end
theorem K5 {h:PT ak} {n b cap:Nat} {d:Rl→Nat} {C:Rl→Option ak} {W:List Int} {ro:Bool} (S:St h n d C) (hb:h.get b=T4 (W.map (.int .u64)) ro) (h1:0<W.length) (h2:W.length≤65536):
  cW Tryz.prog OB 46 [.slice (some ⟨b,0,none⟩) W.length cap] h n fun v h' n'=>v=nD [pt (n+1),I6 0]∧n'=n+2∧Kept h h'∧St h' n' (upd (upd d rW n) rM (n+1)) (upd (upd C rW (row (W.map (.int .u64)))) rM (row [.slice (some ⟨n,0,none⟩) W.length W.length,.slice none 0 0])):=by
 obtain⟨kk,v,h',n',e,rfl,rfl,q1,q2,q3,q4⟩:=KZ (O:=OB) rfl rfl b cap W ro h n S.wf hb h1 h2
 refine⟨kk,_,h',_,e,rfl,rfl,q3,((S.kept q3 q4).give rW q2 fun s D c=>?_).give rM q1 fun s D c=>?_⟩
 ·have:=S.lt c;omega
 ·by_cases c2:s=rW
  ·subst c2;rw[au];omega
  ·rw[Gr c2] at c ⊢
   have:=S.lt c;omega
theorem K7 {h h1:PT ak} {n n1 b cap:Nat} {d:Rl→Nat} {C:Rl→Option ak} {W:List Int} {ro:Bool} (S:St h n d C) (F:Fz h1 n1 d C) (hn:n1≤n) (hb:h.get b=T4 (W.map (.int .u64)) ro) (PI:0<W.length) (Ht:W.length≤65536):
  cW Tryz.prog OB 46 [.slice (some ⟨b,0,none⟩) W.length cap] h n fun v h' n'=>∃ d' C',v=nD [pt (d' rM),I6 0]∧n≤n'∧Kept h h'∧St h' n' d' C'∧Fz h1 n1 d' C'∧mB d' C' W [] 0∧(∀ a b,2<a→d' (a,b)=d (a,b)∧C' (a,b)=C (a,b)):=by
 refine(K5 S hb PI Ht).mono ?_
 rintro v h' n' ⟨rfl,rfl,k,S'⟩
 refine⟨_,_,by simp(disch:=first |decide |assumption |omega) only[rM,rW,rL,au,aq,aT,aR],by omega,k,S',(F.new (a:=1) (by decide) (by omega) _).new (a:=0) (by decide) (by omega) _,⟨by simp(disch:=first |decide |assumption |omega) only[rM,rW,rL,au,aq,aT,aR];rfl,by simp(disch:=first |decide |assumption |omega) only[rM,rW,rL,au,aq,aT,aR],.inl ⟨rfl,rfl⟩,rfl⟩,fun a b c=>⟨by simp(disch:=first |decide |assumption |omega) only[rM,rW,rL,au,aq,aT,aR],by simp(disch:=first |decide |assumption |omega) only[rM,rW,rL,au,aq,aT,aR]⟩⟩
theorem mB.of {d d':Rl→Nat} {C C':Rl→Option ak} {W:List Int} {L:List Value} {k:Nat} (M:mB d C W L k) (hd:∀ a,a<3→d' (a,0)=d (a,0)∧C' (a,0)=C (a,0)):mB d' C' W L k:=by
 obtain⟨m1,m2,m3,m4⟩:=M
 refine⟨?_,?_,?_,m4⟩
 ·rw[(hd 0 (by omega)).2,(hd 1 (by omega)).1,(hd 2 (by omega)).1];exact m1
 ·rw[(hd 1 (by omega)).2];exact m2
 ·rw[(hd 2 (by omega)).2];exact m3
end Go.Proofs.YtofmbmclopgldaaGreat
set_option linter.unusedVariables false
set_option linter.unusedSimpArgs false
namespace Go.Proofs.YtofmbmclopgldaaGreat
open Go.Am
def Rk (p:Int×Bool):List Value:=[.int .u64 p.1,.bool p.2]
def K9 (P:List (Int×Bool)):List Value:=P.flatMap Rk
theorem mC (p:Int×Bool) (P:List (Int×Bool)):K9 (p::P) = .int .u64 p.1 :: .bool p.2::K9 P:=by simp[K9,Rk]
structure PJ (d:Rl→Nat) (C:Rl→Option ak) (base:Int) (n:Nat) (N:List Int) (B:List Bool):Prop where
 zn:C (4,0)=row [.iface 231 (.agg ⟨[.iface 225 (pt (d (5,0)))]⟩),U8 1,I6 n]
 eng:C (5,0)=row [pt (d rM),I6 base,.slice (some ⟨d (6,0),0,none⟩) n n,.slice (some ⟨d (7,0),0,none⟩) n n]
 nums:C (6,0)=row (N.map (.int .u64))
 begun:C (7,0)=row (B.map .bool)
 amP:N.length=n
 amQ:B.length=n
structure PK (d:Rl→Nat) (C:Rl→Option ak) (base:Int) (n:Nat) (P:List (Int×Bool)):Prop where
 zn:C (4,0)=row [.iface 238 (.agg ⟨[.iface 232 (pt (d (5,0)))]⟩),U8 2,I6 n]
 eng:C (5,0)=row [pt (d rM),.slice (some ⟨d (6,0),0,none⟩) n n,.func (.func 182) ⟨[]⟩ ⟨[pt (d (7,0))]⟩]
 slots:C (6,0)=row (K9 P)
 base:C (7,0)=row [I6 base]
 len:P.length=n
structure PN (d:Rl→Nat) (C:Rl→Option ak) (base:Int) (nb n:Nat) (X:List bG) (ck:Nat):Prop where
 zn:C (4,0)=row [.iface 245 (.agg ⟨[.iface 239 (pt (d (5,0)))]⟩),U8 3,I6 n]
 eng:C (5,0)=row [pt (d rM),I6 base,I6 nb,.map (some (d (6,0)))]
 secs:C (6,0)=some (.map (bP .i64 X) ck)
theorem w_ (m:Nat):rep [Value.int .u64 0] m=(List.replicate m (0:Int)).map (.int .u64):=by rw[nh,List.map_replicate]
theorem xd (m:Nat):rep [Value.bool false] m=(List.replicate m false).map .bool:=by rw[nh,List.map_replicate]
theorem rG:∀ m,rep [Value.int .u64 0,.bool false] m=K9 (List.replicate m (0,false))
 |0=>rfl
 |m+1=>by rw[rep,rG m,List.replicate_succ,mC];rfl
set_option maxRecDepth 100000 in
set_option maxHeartbeats 8000000 in
theorem UY {h:PT ak} {ns ba nn:Nat} {d:Rl→Nat} {C:Rl→Option ak} {W:List Int} {L:List Value} {k:Nat} (S:St h nn d C) (M:mB d C W L k) (Nb:0<ns∧ns≤64) (hW:ba+ns≤W.length) (vk:W.length≤65536):
  cW Tryz.prog OB 49 [pt (d rM),U8 1,I6 ba,I6 ns,I6 0] h nn fun r h' n'=>∃ d' C',r=nD [pt (d' (4,0)),I6 0]∧St h' n' d' C'∧PJ d' C' ba ns (List.replicate ns 0) (List.replicate ns false)∧(∀ a b,a≠4→a≠5→a≠6→a≠7→d' (a,b)=d (a,b)∧C' (a,b)=C (a,b))∧(∀ h1 n1,n1≤nn→Fz h1 n1 d C→Fz h1 n1 d' C'):=by
 obtain⟨m1,m2,m3,m4⟩:=M
 have g0:=S.at m1
 have gw:=S.at m2
 have n0:=S.lt m1
 have nw:=S.lt m2
 have hg:=gE (W:=W) (i:=ba+ns-1) (by omega)
 obtain⟨hn1,hn2⟩:=Nb
 have hz:=w_ ns
 have RR:=xd ns
 have hz3:=rG ns
 have hc0: ¬ (ns:Int)<1:=by omega
 have hc1: ¬ (64:Int)<ns:=by omega
 have Jb:((ba+ns-1:Nat):Int)<((W.length:Nat):Int):=by omega
 have Z7:(0:Int)≤((ba+ns-1:Nat):Int):=by omega
 have hc5:((ba:Int)+(ns:Int)-1).toNat=ba+ns-1:=by omega
 have hc6:(ba:Int)+(ns:Int)-1<((W.length:Nat):Int):=by omega
 have Z8:Nat.ble ns 1048576=true:=Nat.ble_eq_true_of_le (by omega)
 generalize W[ba+ns-1]=y at*
 clear m1 m2 m3 m4
 refine ay (N:=86) Tryz.func49 rfl rfl fun z hP hO hro hN hQ=>?_
 repeat' first |simp(maxSteps:=2000000) (disch:=first |omega |assumption) only[go_sem, *] | (apply xs<;>intro _)<;>try omega | ((with_reducible refine ep 11 ?_);refine dw 47 11 wM (by first | (simp only[go_sem, *];done) |rfl) (by kernel_rfl) (by kernel_rfl) ?_) |refine fun (_ _:List Nat)=>?_ | (first |refine aJ Tryz.func116 rfl ?_ ?_ ?_ ?_ |refine aJ Tryz.func179 rfl ?_ ?_ ?_ ?_ |refine aJ Tryz.func180 rfl ?_ ?_ ?_ ?_ |refine aJ Tryz.func181 rfl ?_ ?_ ?_ ?_ |refine aJ Tryz.func117 rfl ?_ ?_ ?_ ?_ |refine aJ Tryz.func118 rfl ?_ ?_ ?_ ?_ |refine aJ Tryz.func119 rfl ?_ ?_ ?_ ?_ |refine aJ Tryz.func114 rfl ?_ ?_ ?_ ?_ |refine aJ Tryz.func69 rfl ?_ ?_ ?_ ?_ |refine aJ Tryz.func178 rfl ?_ ?_ ?_ ?_ |fail)<;>intros
 refine⟨_,_,by simp(disch:=first |decide |assumption |omega) only[rM,rW,rL,au,aq,aT,aR],((((S.new (4,0) _ (Nat.le_refl _) (Nat.lt_succ_self _)).new (6,0) _ (Nat.le_refl _) (Nat.lt_succ_self _)).new (7,0) _ (Nat.le_refl _) (Nat.lt_succ_self _)).new (5,0) _ (Nat.le_refl _) (Nat.lt_succ_self _)).set (4,0) _ (by (simp(disch:=first |decide |assumption |omega) only[rM,rW,rL,au,aq,aT,aR])<;>rfl) (by (simp(disch:=first |decide |assumption |omega) only[rM,rW,rL,au,aq,aT,aR])<;>rfl),⟨by (simp(disch:=first |decide |assumption |omega) only[rM,rW,rL,au,aq,aT,aR])<;>rfl,by (simp(disch:=first |decide |assumption |omega) only[rM,rW,rL,au,aq,aT,aR])<;>rfl,by (simp(disch:=first |decide |assumption |omega) only[rM,rW,rL,au,aq,aT,aR])<;>rfl,by (simp(disch:=first |decide |assumption |omega) only[rM,rW,rL,au,aq,aT,aR])<;>rfl,List.length_replicate,List.length_replicate⟩,fun a b c1 c2 c3 c4=>⟨by simp(disch:=first |decide |assumption |omega) only[rM,rW,rL,au,aq,aT,aR],by simp(disch:=first |decide |assumption |omega) only[rM,rW,rL,au,aq,aT,aR]⟩,fun h1 n1 hn F=>((((F.new (a:=4) (by decide) (by omega) _).new (a:=6) (by decide) (by omega) _).new (a:=7) (by decide) (by omega) _).new (a:=5) (by decide) (by omega) _).set (a:=4) (by decide) (by (simp(disch:=first |decide |assumption |omega) only[rM,rW,rL,au,aq,aT,aR])<;>rfl) _⟩
set_option maxRecDepth 100000 in
set_option maxHeartbeats 8000000 in
theorem UZ {h:PT ak} {ns ba nn:Nat} {d:Rl→Nat} {C:Rl→Option ak} {W:List Int} {L:List Value} {k:Nat} (S:St h nn d C) (M:mB d C W L k) (Nb:0<ns∧ns≤64) (hW:ba+2*ns≤W.length) (vk:W.length≤65536):
  cW Tryz.prog OB 49 [pt (d rM),U8 2,I6 ba,I6 ns,I6 0] h nn fun r h' n'=>∃ d' C',r=nD [pt (d' (4,0)),I6 0]∧St h' n' d' C'∧PK d' C' ba ns (List.replicate ns (0,false))∧(∀ a b,a≠4→a≠5→a≠6→a≠7→d' (a,b)=d (a,b)∧C' (a,b)=C (a,b))∧(∀ h1 n1,n1≤nn→Fz h1 n1 d C→Fz h1 n1 d' C'):=by
 obtain⟨m1,m2,m3,m4⟩:=M
 have g0:=S.at m1
 have gw:=S.at m2
 have n0:=S.lt m1
 have nw:=S.lt m2
 have hg:=gE (W:=W) (i:=ba+2*ns-1) (by omega)
 obtain⟨hn1,hn2⟩:=Nb
 have hz:=w_ ns
 have RR:=xd ns
 have hz3:=rG ns
 have hc0: ¬ (ns:Int)<1:=by omega
 have hc1: ¬ (64:Int)<ns:=by omega
 have Jb:((ba+2*ns-1:Nat):Int)<((W.length:Nat):Int):=by omega
 have Z7:(0:Int)≤((ba+2*ns-1:Nat):Int):=by omega
 have hc5:((ba:Int)+2*(ns:Int)-1).toNat=ba+2*ns-1:=by omega
 have hc6:(ba:Int)+2*(ns:Int)-1<((W.length:Nat):Int):=by omega
 have Z8:Nat.ble ns 1048576=true:=Nat.ble_eq_true_of_le (by omega)
 generalize W[ba+2*ns-1]=y at*
 clear m1 m2 m3 m4
 refine ay (N:=86) Tryz.func49 rfl rfl fun z hP hO hro hN hQ=>?_
 repeat' first |simp(maxSteps:=2000000) (disch:=first |omega |assumption) only[go_sem, *] | (apply xs<;>intro _)<;>try omega | ((with_reducible refine ep 11 ?_);refine dw 47 11 wM (by first | (simp only[go_sem, *];done) |rfl) (by kernel_rfl) (by kernel_rfl) ?_) |refine fun (_ _:List Nat)=>?_ | (first |refine aJ Tryz.func116 rfl ?_ ?_ ?_ ?_ |refine aJ Tryz.func179 rfl ?_ ?_ ?_ ?_ |refine aJ Tryz.func180 rfl ?_ ?_ ?_ ?_ |refine aJ Tryz.func181 rfl ?_ ?_ ?_ ?_ |refine aJ Tryz.func117 rfl ?_ ?_ ?_ ?_ |refine aJ Tryz.func118 rfl ?_ ?_ ?_ ?_ |refine aJ Tryz.func119 rfl ?_ ?_ ?_ ?_ |refine aJ Tryz.func114 rfl ?_ ?_ ?_ ?_ |refine aJ Tryz.func69 rfl ?_ ?_ ?_ ?_ |refine aJ Tryz.func178 rfl ?_ ?_ ?_ ?_ |fail)<;>intros
 refine⟨_,_,by simp(disch:=first |decide |assumption |omega) only[rM,rW,rL,au,aq,aT,aR],((((S.new (4,0) _ (Nat.le_refl _) (Nat.lt_succ_self _)).new (7,0) _ (Nat.le_refl _) (Nat.lt_succ_self _)).new (6,0) _ (Nat.le_refl _) (Nat.lt_succ_self _)).new (5,0) _ (Nat.le_refl _) (Nat.lt_succ_self _)).set (4,0) _ (by (simp(disch:=first |decide |assumption |omega) only[rM,rW,rL,au,aq,aT,aR])<;>rfl) (by (simp(disch:=first |decide |assumption |omega) only[rM,rW,rL,au,aq,aT,aR])<;>rfl),⟨by (simp(disch:=first |decide |assumption |omega) only[rM,rW,rL,au,aq,aT,aR])<;>rfl,by (simp(disch:=first |decide |assumption |omega) only[rM,rW,rL,au,aq,aT,aR])<;>rfl,by (simp(disch:=first |decide |assumption |omega) only[rM,rW,rL,au,aq,aT,aR])<;>rfl,by (simp(disch:=first |decide |assumption |omega) only[rM,rW,rL,au,aq,aT,aR])<;>rfl,List.length_replicate⟩,fun a b c1 c2 c3 c4=>⟨by simp(disch:=first |decide |assumption |omega) only[rM,rW,rL,au,aq,aT,aR],by simp(disch:=first |decide |assumption |omega) only[rM,rW,rL,au,aq,aT,aR]⟩,fun h1 n1 hn F=>((((F.new (a:=4) (by decide) (by omega) _).new (a:=7) (by decide) (by omega) _).new (a:=6) (by decide) (by omega) _).new (a:=5) (by decide) (by omega) _).set (a:=4) (by decide) (by (simp(disch:=first |decide |assumption |omega) only[rM,rW,rL,au,aq,aT,aR])<;>rfl) _⟩
set_option maxRecDepth 100000 in
set_option maxHeartbeats 8000000 in
theorem U0 {h:PT ak} {ns ba nb nn:Nat} {d:Rl→Nat} {C:Rl→Option ak} {W:List Int} {L:List Value} {k:Nat} (S:St h nn d C) (M:mB d C W L k) (Nb:0<ns∧ns≤64) (hnb:0<nb∧nb≤16) (hW:ba+4*nb≤W.length) (vk:W.length≤65536):
  cW Tryz.prog OB 49 [pt (d rM),U8 3,I6 ba,I6 ns,I6 nb] h nn fun r h' n'=>∃ d' C',r=nD [pt (d' (4,0)),I6 0]∧St h' n' d' C'∧PN d' C' ba nb ns [] 0∧(∀ a b,a≠4→a≠5→a≠6→a≠7→d' (a,b)=d (a,b)∧C' (a,b)=C (a,b))∧(∀ h1 n1,n1≤nn→Fz h1 n1 d C→Fz h1 n1 d' C'):=by
 obtain⟨m1,m2,m3,m4⟩:=M
 have g0:=S.at m1
 have gw:=S.at m2
 have n0:=S.lt m1
 have nw:=S.lt m2
 have hg:=gE (W:=W) (i:=ba+4*nb-1) (by omega)
 obtain⟨hn1,hn2⟩:=Nb
 have hz:=w_ ns
 have RR:=xd ns
 have hz3:=rG ns
 have hc0: ¬ (ns:Int)<1:=by omega
 have hc1: ¬ (64:Int)<ns:=by omega
 have Jb:((ba+4*nb-1:Nat):Int)<((W.length:Nat):Int):=by omega
 have Z7:(0:Int)≤((ba+4*nb-1:Nat):Int):=by omega
 have hc5:((ba:Int)+4*(nb:Int)-1).toNat=ba+4*nb-1:=by omega
 have hc6:(ba:Int)+4*(nb:Int)-1<((W.length:Nat):Int):=by omega
 have Z8:Nat.ble ns 1048576=true:=Nat.ble_eq_true_of_le (by omega)
 generalize W[ba+4*nb-1]=y at*
 clear m1 m2 m3 m4
 refine ay (N:=86) Tryz.func49 rfl rfl fun z hP hO hro hN hQ=>?_
 repeat' first |simp(maxSteps:=2000000) (disch:=first |omega |assumption) only[go_sem, *] | (apply xs<;>intro _)<;>try omega | ((with_reducible refine ep 11 ?_);refine dw 47 11 wM (by first | (simp only[go_sem, *];done) |rfl) (by kernel_rfl) (by kernel_rfl) ?_) |refine fun (_ _:List Nat)=>?_ | (first |refine aJ Tryz.func116 rfl ?_ ?_ ?_ ?_ |refine aJ Tryz.func179 rfl ?_ ?_ ?_ ?_ |refine aJ Tryz.func180 rfl ?_ ?_ ?_ ?_ |refine aJ Tryz.func181 rfl ?_ ?_ ?_ ?_ |refine aJ Tryz.func117 rfl ?_ ?_ ?_ ?_ |refine aJ Tryz.func118 rfl ?_ ?_ ?_ ?_ |refine aJ Tryz.func119 rfl ?_ ?_ ?_ ?_ |refine aJ Tryz.func114 rfl ?_ ?_ ?_ ?_ |refine aJ Tryz.func69 rfl ?_ ?_ ?_ ?_ |refine aJ Tryz.func178 rfl ?_ ?_ ?_ ?_ |fail)<;>intros
 refine⟨_,_,by simp(disch:=first |decide |assumption |omega) only[rM,rW,rL,au,aq,aT,aR],(((S.new (4,0) _ (Nat.le_refl _) (Nat.lt_succ_self _)).new (6,0) _ (Nat.le_refl _) (Nat.lt_succ_self _)).new (5,0) _ (Nat.le_refl _) (Nat.lt_succ_self _)).set (4,0) _ (by (simp(disch:=first |decide |assumption |omega) only[rM,rW,rL,au,aq,aT,aR])<;>rfl) (by (simp(disch:=first |decide |assumption |omega) only[rM,rW,rL,au,aq,aT,aR])<;>rfl),⟨by (simp(disch:=first |decide |assumption |omega) only[rM,rW,rL,au,aq,aT,aR])<;>rfl,by (simp(disch:=first |decide |assumption |omega) only[rM,rW,rL,au,aq,aT,aR])<;>rfl,by (simp(disch:=first |decide |assumption |omega) only[rM,rW,rL,au,aq,aT,aR])<;>rfl⟩,fun a b c1 c2 c3 c4=>⟨by simp(disch:=first |decide |assumption |omega) only[rM,rW,rL,au,aq,aT,aR],by simp(disch:=first |decide |assumption |omega) only[rM,rW,rL,au,aq,aT,aR]⟩,fun h1 n1 hn F=>(((F.new (a:=4) (by decide) (by omega) _).new (a:=6) (by decide) (by omega) _).new (a:=5) (by decide) (by omega) _).set (a:=4) (by decide) (by (simp(disch:=first |decide |assumption |omega) only[rM,rW,rL,au,aq,aT,aR])<;>rfl) _⟩
end Go.Proofs.YtofmbmclopgldaaGreat
set_option linter.unusedVariables false
set_option linter.unusedSimpArgs false
namespace Go.Proofs.YtofmbmclopgldaaGreat
open Go.Am
structure MO (d:Rl→Nat) (C:Rl→Option ak) (lb:Nat) (l:cK) (mk ev:Value) (R:List bG) (rk:Nat) (X:List bG) (xk:Nat) (G:List Int):Prop where
 base:C (70,0)=row [pt lb,pt (d rM),pt (d (75,0)),pt (d (78,0)),pt (d (4,0)),mk,ev,.map (some (d (73,0))),.map (some (d (74,0)))]
 reg:C (74,0)=some (.map (bP .i64 R) rk)
 pool:C (75,0)=row [pt (d rM),pt lb,I6 (l.P.getD 5 0),I6 (l.P.getD 6 0),.map (some (d (76,0))),.slice (some ⟨d (77,0),0,none⟩) G.length G.length]
 out:C (76,0)=some (.map (bP .i64 X) xk)
 HU:C (77,0)=row (G.map (.int .i64))
 tow:C (78,0)=row [pt (d rM),pt lb]
 vals:∃ v,C (73,0)=some v
theorem K_ (m:Nat):rep [Value.int .i64 0] m=(List.replicate m (0:Int)).map (.int .i64):=by rw[nh,List.map_replicate]
set_option maxRecDepth 100000 in
set_option maxHeartbeats 8000000 in
theorem HV {h h1:PT ak} {n n1 lb sz:Nat} {d:Rl→Nat} {C:Rl→Option ak} {W:List Int} {L:List Value} {k:Nat} {l:cK} {V:Int} (S:St h n d C) (F:Fz h1 n1 d C) (M:mB d C W L k) (hl0:(tI (pt lb)).look h1=some l) (hn:wW l V sz) (hW:W.length=sz):
  cW Tryz.prog OB 47 [pt (d rM),pt lb] h n fun r h' n'=>∃ d' C',r=nD [pt (d' (75,0)),I6 0]∧St h' n' d' C'∧Fz h1 n1 d' C'∧n≤n'∧
   C' (75,0)=row [pt (d' rM),pt lb,I6 (l.P.getD 5 0),I6 (l.P.getD 6 0),.map (some (d' (76,0))),.slice (some ⟨d' (77,0),0,none⟩) l.H.length l.H.length]∧C' (76,0)=some (.map (bP .i64 []) 0)∧C' (77,0)=row ((List.replicate l.H.length (0:Int)).map (.int .i64))∧
   (∀ a b,a≠75→a≠76→a≠77→d' (a,b)=d (a,b)∧C' (a,b)=C (a,b)):=by
 obtain⟨m1,m2,m3,m4⟩:=M
 have g0:=S.at m1
 have gw:=S.at m2
 have n0:=S.lt m1
 have nw:=S.lt m2
 have l0:=F.lo _ _ (by decide) m1
 have lw:=F.lo _ _ (by decide) m2
 have K:=F.kept S
 have Wf:=F.wf
 have hrl:=fun h' hk z f d ops r K m n=>@cE _ _ _ _ h' hl0 z f d ops r K m n hk
 have hrx:=fun h' hk z L f d ops r K m n lo rd wr fs=>@lV _ _ _ _ h' hl0 z L f d ops r K m n lo rd wr fs hk
 have EF:=fun h' lo hi hk hl=>@sY _ _ _ _ h' _ lo hi hl0 F.wf hk hl
 have hlen:=hn.KR.len
 have acS:=hn.sz1
 have HW:=hn.RE
 obtain⟨q0,q1,q2,q3,q4,q5,q6,q7,q8,hP⟩:=hn.PL
 have hz:=K_ l.H.length
 have KN:l.H.length.ble 1048576=true:=Nat.ble_eq_true_of_le (by omega)
 have hg:=gE (W:=W) (i:=sz-1) (by omega)
 have n1n:n1≤n:=by omega
 have hP5:l.P.getD 5 0=q5:=by rw[hP];rfl
 have hP6:l.P.getD 6 0=q6:=by rw[hP];rfl
 rw[hP5,hP6]
 have Bm:l.P.map (Value.int .i64)=[I6 q0,I6 q1,I6 q2,I6 q3,I6 q4,I6 q5,I6 q6,I6 q7,I6 q8,I6 sz]:=by rw[hP];rfl
 rw[hW] at g0
 have hc1:(sz:Int)-1=((sz-1:Nat):Int):=by omega
 have Jb:((sz-1:Nat):Int)<(sz:Int):=by omega
 have Z7:(0:Int)≤((sz-1:Nat):Int):=by omega
 have hc4: ¬ (sz:Int)<(sz:Int):=by omega
 generalize W[sz-1]=y at*
 clear m1 m2 m3 m4 hP hn hP5 hP6 hl0
 refine ay (N:=49) Tryz.func47 rfl rfl fun z hP hO hro hN hQ=>?_
 repeat' first |simp(maxSteps:=2000000) (disch:=first |omega | (repeat first |assumption |exact Kept.refl _ |refine Kept.set' (by assumption) ?_ ?_ |refine Kept.set (by assumption) ?_ ?_ |omega)) only[go_sem, *,iL,kN] | (apply xs<;>intro _)<;>try omega | ((with_reducible refine ep 10 ?_);refine dw 49 10 O9 (by first | (simp only[go_sem, *];done) |rfl) (by kernel_rfl) (by kernel_rfl) ?_) |refine fun (_ _:List Nat)=>?_ | (first |refine aJ Tryz.func114 rfl ?_ ?_ ?_ ?_ |refine aJ Tryz.func69 rfl ?_ ?_ ?_ ?_ |refine aJ Tryz.func178 rfl ?_ ?_ ?_ ?_ |fail)<;>intros
 exact⟨_,_,by simp(disch:=first |decide |assumption |omega) only[rM,rW,rL,au,aq,aT,aR],(((S.T6 (Nat.le_refl _) (Nat.lt_succ_self _)).new (76,0) _ (Nat.le_refl _) (Nat.lt_succ_self _)).new (77,0) _ (Nat.le_refl _) (Nat.lt_succ_self _)).new (75,0) _ (Nat.le_refl _) (Nat.lt_succ_self _),((F.new (a:=76) (by decide) (by omega) _).new (a:=77) (by decide) (by omega) _).new (a:=75) (by decide) (by omega) _,by omega,by simp(disch:=first |decide |assumption |omega) only[rM,rW,rL,au,aq,aT,aR],by simp(disch:=first |decide |assumption |omega) only[rM,rW,rL,au,aq,aT,aR];rfl,by simp(disch:=first |decide |assumption |omega) only[rM,rW,rL,au,aq,aT,aR],fun a b c1 c2 c3=>⟨by simp(disch:=first |decide |assumption |omega) only[rM,rW,rL,au,aq,aT,aR],by simp(disch:=first |decide |assumption |omega) only[rM,rW,rL,au,aq,aT,aR]⟩⟩
end Go.Proofs.YtofmbmclopgldaaGreat
