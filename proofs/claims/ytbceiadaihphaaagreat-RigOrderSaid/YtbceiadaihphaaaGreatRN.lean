/-
  A part of the proof: contracts of inner functions.
-/
import Derived.Test.YtbceiadaihphaaaGreatPM
import Derived.Test.YtbceiadaihphaaaGreatRX2E
import Derived.Test.YtbceiadaihphaaaGreatRX6G
set_option linter.unusedVariables false
set_option linter.unusedSimpArgs false
namespace Go.Proofs.YtbceiadaihphaaaGreat
open Go.Am
theorem qQ (x:Value):∀ k,rep [x] k=List.replicate k x
 |0=>rfl
 |k+1=>by rw[rep,qQ x k];rfl
def sI (W:List Int) (i:Nat):List Value:=(W.take i).map (.int .u64)++List.replicate (W.length-i) (.int .u64 0)
theorem w_ (W:List Int) (i:Nat) (hi:i≤W.length):(sI W i).length=W.length:=by
 unfold sI
 rw[List.length_append,List.length_map,List.length_take,List.length_replicate]
 omega
theorem Cn (W:List Int):sI W 0=rep [.int .u64 0] W.length:=by
 rw[qQ];rfl
theorem Fm (W:List Int):sI W W.length=W.map (.int .u64):=by
 unfold sI
 rw[List.take_length,Nat.sub_self,List.replicate_zero,List.append_nil]
theorem Fo {W:List Int} {i:Nat} (hi:i<W.length):(sI W i)[i]? = some (.int .u64 0):=by
 unfold sI
 rw[List.getElem?_append_right (by rw[List.length_map,List.length_take];omega),List.length_map,List.length_take,Nat.min_eq_left (by omega),Nat.sub_self]
 rw[List.getElem?_replicate,if_pos (by omega)]
theorem Fp {W:List Int} {i:Nat} (hi:i<W.length):(sI W i).set i (.int .u64 W[i])=sI W (i+1):=by
 unfold sI
 have e:((W.take i).map (Value.int .u64)).length=i:=by rw[List.length_map,List.length_take];omega
 rw[List.set_append_right _ _ (by rw[e];exact Nat.le_refl _),e,Nat.sub_self,List.take_succ_eq_append_getElem hi,List.map_append,List.append_assoc]
 have e2:W.length-i=(W.length-(i+1))+1:=by omega
 rw[e2,List.replicate_succ]
 rfl
set_option maxRecDepth 100000 in
set_option maxHeartbeats 8000000 in
theorem IU {O:dK} (o1:O 64=fun _=>none) (o2:O 65=fun _=>none) (b cap:Nat) (W:List Int) (ro:Bool) (h:PT aj) (N:Nat) (hW:iG h N) (hb:h.get b=some (.cells (PT.ofList .leaf 0 (W.map (.int .u64))) ro)) (h1:0<W.length) (h2:W.length≤65536):
  b9 Tryz.prog O 31 [.slice (some ⟨b,0,none⟩) W.length cap] h N fun v h' n'=>v=dY [pt (N+1),I6 0]∧n'=N+2∧h'.get (N+1)=row [.slice (some ⟨N,0,none⟩) W.length W.length,.slice none 0 0]∧h'.get N=row (W.map (.int .u64))∧Kept h h'∧iG h' n':=by
 have hbN:=hW.lt hb
 have hm0:=Cn W
 have Rv:W.length.ble 1048576=true:=Nat.ble_eq_true_of_le (by omega)
 have h3: ¬ (W.length:Int)=0:=by omega
 have h4: ¬ (65536:Int)<W.length:=by omega
 refine aC (N:=36) Tryz.func31 rfl rfl fun z hP hO hro hN hQ=>?_
 repeat' first |simp(disch:=first |omega |assumption) only[go_sem, *] | (apply xs<;>intro _)<;>try omega |refine fun (_ _:List Nat)=>?_ | (first |refine aT Tryz.func64 rfl ?_ ?_ ?_ ?_ |fail)<;>intros
 refine dG (fun t m h' n'=>∃ i:Nat,i≤W.length∧t=W.length-i∧m.n=36∧m.gD=[]∧m.get 5=pt (N+1)∧m.get 19 = .slice (some ⟨b,0,none⟩) W.length cap∧m.get 20=I6 W.length∧m.get 21=I6 i∧n'=N+2∧
  h'.get (N+1)=row [.slice (some ⟨N,0,none⟩) W.length W.length,.slice none 0 0]∧h'.get N=row (sI W i)∧Kept h h'∧iG h' n') W.length ?_ ?_
 ·refine⟨0,by omega,by omega,?_⟩
  rw[hm0]
  simp(disch:=first |omega |assumption) only[go_sem, *]
  exact⟨Kept.set' hW (by omega) (Kept.set' hW (Nat.le_refl _) (Kept.refl _)),(hW.set (Nat.le_succ _) (by omega)).set (Nat.le_succ _) (by omega)⟩
 ·clear hm0
  rintro t m h' n' ih ⟨i,hi,rfl,m1,m2,m3,m4,m5,m6,rfl,q1,q2,q3,q4⟩
  rcases Nat.lt_or_ge i W.length with hlt |hge
  ·have e7:(i:Int)<W.length:=by omega
   have hb':=q3 _ _ hb
   have hg:=eC hlt
   have hmg:=Fo hlt
   have YK:=Fp hlt
   have hml:=w_ W i (by omega)
   have qt:((i+1:Nat):Int)=(i:Int)+1:=by omega
   generalize W[i]=x at*
   clear hb
   repeat' first |simp(disch:=first |omega |assumption) only[go_sem, *] | (apply xs<;>intro _)<;>try omega |refine fun (_ _:List Nat)=>?_ | (first |refine aT Tryz.func65 rfl ?_ ?_ ?_ ?_ |fail)<;>intros
   refine ih (W.length-(i+1)) _ _ _ (by omega) ⟨i+1,by omega,rfl,?_⟩
   rw[qt]
   clear ih
   simp(disch:=first |omega |assumption) only[go_sem, *]
   exact⟨Kept.set' hW (by omega) q3,q4.set (Nat.le_refl _) (by omega)⟩
  ·have e7: ¬ (i:Int)<W.length:=by omega
   obtain rfl:i=W.length:=by omega
   rw[Fm] at q2
   clear ih
   repeat' first |simp(disch:=first |omega |assumption) only[go_sem, *] | (apply xs<;>intro _)<;>try omega |refine fun (_ _:List Nat)=>?_
end Go.Proofs.YtbceiadaihphaaaGreat
namespace Go.Proofs.YtbceiadaihphaaaGreat
open Go.Am
theorem u7 (m:Nat):rep [Value.int .u64 0] m=(nl m fun _=>0).map (.int .u64):=by
 rw[qQ]
 unfold nl
 rw[List.map_map]
 apply List.ext_getElem?
 intro j
 rw[List.getElem?_replicate,List.getElem?_map]
 by_cases c:j<m
 ·rw[if_pos c,List.getElem?_range c];rfl
 ·rw[if_neg c,List.getElem?_eq_none (by rw[List.length_range];omega)];rfl
theorem Au (m:Nat):rep [Value.bool false] m=(bl m fun _=>false).map .bool:=by
 rw[qQ]
 unfold bl
 rw[List.map_map]
 apply List.ext_getElem?
 intro j
 rw[List.getElem?_replicate,List.getElem?_map]
 by_cases c:j<m
 ·rw[if_pos c,List.getElem?_range c];rfl
 ·rw[if_neg c,List.getElem?_eq_none (by rw[List.length_range];omega)];rfl
theorem u9:∀ m,rep [Value.int .u64 0,.bool false] m=uU (List.replicate m (0,false))
 |0=>rfl
 |m+1=>by rw[rep,u9 m,List.replicate_succ,eE];rfl
set_option maxRecDepth 100000 in
set_option maxHeartbeats 8000000 in
theorem RO {h:PT aj} {ns nn:Nat} {d:Rl→Nat} {C:Rl→Option aj} {W:List Int} {L:List Value} {k:Nat} (S:St h nn d C) (M:dP d C W L k) (cq:0<ns∧ns≤64) (hW:W.length=ns):
  b9 Tryz.prog OP 32 [pt (d rM),U8 1,I6 0,I6 ns,I6 0] h nn fun r h' n'=>∃ d' C',r=dY [pt (d' (4,0)),I6 0]∧St h' n' d' C'∧wR d' C' 0 ns (nl ns fun _=>0) (bl ns fun _=>false)∧(∀ a b,a≠4→a≠5→a≠6→a≠7→d' (a,b)=d (a,b)∧C' (a,b)=C (a,b)):=by
 obtain⟨m1,m2,m3,m4⟩:=M
 have g0:=S.at m1
 have gw:=S.at m2
 have n0:=S.lt m1
 have nw:=S.lt m2
 have hg:=eC (W:=W) (i:=ns-1) (by omega)
 rw[hW] at g0
 obtain⟨hn1,hn2⟩:=cq
 have hz:=u7 ns
 have Mp:=Au ns
 have hz3:=u9 ns
 have hc0: ¬ (ns:Int)<1:=by omega
 have OQ: ¬ (64:Int)<ns:=by omega
 have FZ:((ns-1:Nat):Int)<((ns:Nat):Int):=by omega
 have Y_:(0:Int)≤((ns-1:Nat):Int):=by omega
 have Za:ns-1<ns:=by omega
 have hc5:(0+(ns:Int)-1).toNat=ns-1:=by omega
 have hc6:(0:Int)+(ns:Int)-1<((ns:Nat):Int):=by omega
 have hc7:Nat.ble ns 1048576=true:=Nat.ble_eq_true_of_le (by omega)
 generalize W[ns-1]=y at*
 clear m1 m2 m3 m4
 refine aC (N:=86) Tryz.func32 rfl rfl fun z hP hO hro hN hQ=>?_
 repeat' first |simp(disch:=first |omega |assumption) only[go_sem, *] | (apply xs<;>intro _)<;>try omega | ((with_reducible refine bR 11 ?_);refine dz 47 11 w66_11 ?_) |refine fun (_ _:List Nat)=>?_ | (first |refine aT Tryz.func30 rfl ?_ ?_ ?_ ?_ |refine aT Tryz.func61 rfl ?_ ?_ ?_ ?_ |refine aT Tryz.func66 rfl ?_ ?_ ?_ ?_ |refine aT Tryz.func79 rfl ?_ ?_ ?_ ?_ |refine aT Tryz.func90 rfl ?_ ?_ ?_ ?_ |refine aT Tryz.func89 rfl ?_ ?_ ?_ ?_ |fail)<;>intros
 refine⟨_,_,rR,((((S.new (4,0) _ bG bH).new (6,0) _ bG bH).new (7,0) _ bG bH).new (5,0) _ bG bH).set (4,0) _ rS rS,⟨rS,rS,rS,rS,aV,fW⟩,fun a b c1 c2 c3 c4=>⟨rR,rR⟩⟩
set_option maxRecDepth 100000 in
set_option maxHeartbeats 8000000 in
theorem RP {h:PT aj} {ns nn:Nat} {d:Rl→Nat} {C:Rl→Option aj} {W:List Int} {L:List Value} {k:Nat} (S:St h nn d C) (M:dP d C W L k) (cq:0<ns∧ns≤64) (hW:W.length=2*ns):
  b9 Tryz.prog OP 32 [pt (d rM),U8 2,I6 0,I6 ns,I6 0] h nn fun r h' n'=>∃ d' C',r=dY [pt (d' (4,0)),I6 0]∧St h' n' d' C'∧qD d' C' 0 ns (List.replicate ns (0,false))∧(∀ a b,a≠4→a≠5→a≠6→a≠7→d' (a,b)=d (a,b)∧C' (a,b)=C (a,b)):=by
 obtain⟨m1,m2,m3,m4⟩:=M
 have g0:=S.at m1
 have gw:=S.at m2
 have n0:=S.lt m1
 have nw:=S.lt m2
 have hg:=eC (W:=W) (i:=2*ns-1) (by omega)
 rw[hW] at g0
 obtain⟨hn1,hn2⟩:=cq
 have hz:=u7 ns
 have Mp:=Au ns
 have hz3:=u9 ns
 have hc0: ¬ (ns:Int)<1:=by omega
 have OQ: ¬ (64:Int)<ns:=by omega
 have FZ:((2*ns-1:Nat):Int)<((2*ns:Nat):Int):=by omega
 have Y_:(0:Int)≤((2*ns-1:Nat):Int):=by omega
 have Za:2*ns-1<2*ns:=by omega
 have hc5:(0+2*(ns:Int)-1).toNat=2*ns-1:=by omega
 have hc6:(0:Int)+2*(ns:Int)-1<((2*ns:Nat):Int):=by omega
 have hc7:Nat.ble ns 1048576=true:=Nat.ble_eq_true_of_le (by omega)
 generalize W[2*ns-1]=y at*
 clear m1 m2 m3 m4
 refine aC (N:=86) Tryz.func32 rfl rfl fun z hP hO hro hN hQ=>?_
 repeat' first |simp(disch:=first |omega |assumption) only[go_sem, *] | (apply xs<;>intro _)<;>try omega |refine fun (_ _:List Nat)=>?_ | (first |refine aT Tryz.func30 rfl ?_ ?_ ?_ ?_ |refine aT Tryz.func62 rfl ?_ ?_ ?_ ?_ |refine aT Tryz.func67 rfl ?_ ?_ ?_ ?_ |refine aT Tryz.func79 rfl ?_ ?_ ?_ ?_ |refine aT Tryz.func90 rfl ?_ ?_ ?_ ?_ |refine aT Tryz.func89 rfl ?_ ?_ ?_ ?_ |fail)<;>intros
 refine⟨_,_,rR,((((S.new (4,0) _ bG bH).new (7,0) _ bG bH).new (6,0) _ bG bH).new (5,0) _ bG bH).set (4,0) _ rS rS,⟨rS,rS,rS,rS,List.length_replicate⟩,fun a b c1 c2 c3 c4=>⟨rR,rR⟩⟩
set_option maxRecDepth 100000 in
set_option maxHeartbeats 8000000 in
theorem RQ {h:PT aj} {ns nb nn:Nat} {d:Rl→Nat} {C:Rl→Option aj} {W:List Int} {L:List Value} {k:Nat} (S:St h nn d C) (M:dP d C W L k) (cq:0<ns∧ns≤64) (hn:0<nb∧nb≤16) (hW:W.length=4*nb):
  b9 Tryz.prog OP 32 [pt (d rM),U8 3,I6 0,I6 ns,I6 nb] h nn fun r h' n'=>∃ d' C',r=dY [pt (d' (4,0)),I6 0]∧St h' n' d' C'∧BV d' C' 0 nb ns [] 0∧(∀ a b,a≠4→a≠5→a≠6→a≠7→d' (a,b)=d (a,b)∧C' (a,b)=C (a,b)):=by
 obtain⟨m1,m2,m3,m4⟩:=M
 have g0:=S.at m1
 have gw:=S.at m2
 have n0:=S.lt m1
 have nw:=S.lt m2
 have hg:=eC (W:=W) (i:=4*nb-1) (by omega)
 rw[hW] at g0
 obtain⟨hn1,hn2⟩:=hn
 have hc0: ¬ (ns:Int)<1:=by omega
 have hc7: ¬ (64:Int)<ns:=by omega
 have OQ:(4:Int)*nb-1=((4*nb-1:Nat):Int):=by omega
 have FZ:((4*nb-1:Nat):Int)<((4*nb:Nat):Int):=by omega
 have Y_:(0:Int)≤((4*nb-1:Nat):Int):=by omega
 have Za:4*nb-1<4*nb:=by omega
 have hc5:(0+4*(nb:Int)-1).toNat=4*nb-1:=by omega
 have hc6:(0:Int)+4*nb-1<((4*nb:Nat):Int):=by omega
 generalize W[4*nb-1]=y at*
 clear m1 m2 m3 m4
 refine aC (N:=86) Tryz.func32 rfl rfl fun z hP hO hro hN hQ=>?_
 repeat' first |simp(disch:=first |omega |assumption) only[go_sem, *] | (apply xs<;>intro _)<;>try omega |refine fun (_ _:List Nat)=>?_ | (first |refine aT Tryz.func30 rfl ?_ ?_ ?_ ?_ |refine aT Tryz.func63 rfl ?_ ?_ ?_ ?_ |refine aT Tryz.func68 rfl ?_ ?_ ?_ ?_ |refine aT Tryz.func79 rfl ?_ ?_ ?_ ?_ |refine aT Tryz.func90 rfl ?_ ?_ ?_ ?_ |refine aT Tryz.func89 rfl ?_ ?_ ?_ ?_ |fail)<;>intros
 refine⟨_,_,rR,(((S.new (4,0) _ bG bH).new (6,0) _ bG bH).new (5,0) _ bG bH).set (4,0) _ rS rS,⟨rS,rS,rS⟩,fun a b c1 c2 c3 c4=>⟨rR,rR⟩⟩
end Go.Proofs.YtbceiadaihphaaaGreat
namespace Go.Proofs.YtbceiadaihphaaaGreat
open Go.Am
structure qu (e:gT) (ns:Nat) (rep:e.σ→List Value→(Rl→Nat)→(Rl→Option aj)→Prop) (hJ h_:e.σ→Nat→Int):Prop where
 Fq:∀ {h:PT aj} {n:Nat} {d:Rl→Nat} {C:Rl→Option aj} {s:e.σ} {k:List Value} {t:Nat},St h n d C→rep s k d C→t<ns→e.br s t=true→
  b9 Tryz.prog OP 53 [pt (d (8,t))] h n fun r h' n'=>r=U8 (hJ s t)∧hJ s t≠0∧St h' n' d C
 Ft:∀ {h:PT aj} {n:Nat} {d:Rl→Nat} {C:Rl→Option aj} {s:e.σ} {k:List Value} {t:Nat},St h n d C→rep s k d C→t<ns→e.wt s t=true→
  b9 Tryz.prog OP 54 [pt (d (10,t))] h n fun r h' n'=>r=U8 (h_ s t)∧h_ s t≠0∧St h' n' d C
set_option maxRecDepth 100000 in
set_option maxHeartbeats 2000000 in
theorem Mq {ns:Nat}:qu (jV ns) ns (kI ns) (fun _ _=>13) (fun _ _=>17):=by
 refine⟨fun {h n d C s k t} S R ht he=>?_,fun {h n d C s k t} S R ht he=>?_⟩
 ·obtain⟨a1,a2⟩:=R.en t ht he
  have g8:=S.at a1
  have g9:=S.at a2
  clear R a1 a2
  refine aC (N:=10) Tryz.func53 rfl rfl fun z hP hO hro hN hQ=>?_
  repeat' first |simp(disch:=first |omega |assumption) only[go_sem, *] | (apply xs<;>intro _)<;>try omega |refine fun (_ _:List Nat)=>?_ | (first |refine aT Tryz.func199 rfl ?_ ?_ ?_ ?_ |fail)<;>intros
 ·obtain⟨x,hX⟩:=Option.isSome_iff_exists.1 (show (s.X t).isSome=true from he)
  obtain⟨a1,a2,a3,a4⟩:=R.wa t x ht hX
  have n_:=S.at a3
  have iw:=S.at a4
  simp only[gy,a2,Bool.false_eq_true,if_false] at iw
  generalize (if x.again=true then _ else _)=fn at iw
  clear R a1 a2 a3 a4
  refine aC (N:=10) Tryz.func54 rfl rfl fun z hP hO hro hN hQ=>?_
  repeat' first |simp(disch:=first |omega |assumption) only[go_sem, *] | (apply xs<;>intro _)<;>try omega |refine fun (_ _:List Nat)=>?_ | (first |refine aT Tryz.func201 rfl ?_ ?_ ?_ ?_ |fail)<;>intros
set_option maxRecDepth 100000 in
set_option maxHeartbeats 2000000 in
theorem Mr {ns:Nat}:qu (iy ns) ns (kJ ns) wZ tw:=by
 refine⟨fun {h n d C s k t} S R ht he=>?_,fun {h n d C s k t} S R ht he=>?_⟩
 ·have he':decide (s.E t≠0)=true:=he
  have he2:s.E t≠0:=by simpa using he'
  obtain⟨a1,a2⟩:=R.en t ht he2
  obtain⟨-,-,b3⟩:=R.ev t ht he2
  have g8:=S.at a1
  have g9:=S.at a2
  have n8:=S.lt a1
  have n9:=S.lt a2
  clear R a1 a2 he he'
  unfold wZ
  by_cases c:s.E t=1
  ·rw[if_pos c]
   rw[c,show (((1:Nat):Int)-1)=0 from rfl] at g9
   refine aC (N:=10) Tryz.func53 rfl rfl fun z hP hO hro hN hQ=>?_
   repeat' first |simp(disch:=first |omega |assumption) only[go_sem, *] | (apply xs<;>intro _)<;>try omega |refine fun (_ _:List Nat)=>?_ | (first |refine aT Tryz.func203 rfl ?_ ?_ ?_ ?_ |fail)<;>intros
   exact S.cg bG bH
  ·have c2:s.E t=2:=by omega
   rw[if_neg c]
   rw[c2,show (((2:Nat):Int)-1)=1 from rfl] at g9
   refine aC (N:=10) Tryz.func53 rfl rfl fun z hP hO hro hN hQ=>?_
   repeat' first |simp(disch:=first |omega |assumption) only[go_sem, *] | (apply xs<;>intro _)<;>try omega |refine fun (_ _:List Nat)=>?_ | (first |refine aT Tryz.func203 rfl ?_ ?_ ?_ ?_ |fail)<;>intros
   exact S.cg bG bH
 ·obtain⟨⟨x,st⟩,hX⟩:=Option.isSome_iff_exists.1 (show (s.X t).isSome=true from he)
  obtain⟨a1,a2,a3,a4,a5⟩:=R.wa t x st ht hX
  have n_:=S.at a4
  have iw:=S.at a5
  have EU:=S.lt a4
  have CS:=S.lt a5
  have hp:tw s t=if x.st=1 then 18 else 17:=by unfold tw;rw[hX]
  rw[hp]
  simp only[eY] at iw
  clear R a1 a3 a4 a5 he hX hp
  by_cases c0:x.st=0
  ·rw[if_neg (by omega)]
   rw[c0,show ((0:Nat):Int)=0 from rfl] at iw
   refine aC (N:=10) Tryz.func54 rfl rfl fun z hP hO hro hN hQ=>?_
   repeat' first |simp(disch:=first |omega |assumption) only[go_sem, *] | (apply xs<;>intro _)<;>try omega |refine fun (_ _:List Nat)=>?_ | (first |refine aT Tryz.func208 rfl ?_ ?_ ?_ ?_ |fail)<;>intros
   exact S.cg bG bH
  ·by_cases c1:x.st=1
   ·rw[if_pos c1]
    rw[c1,show ((1:Nat):Int)=1 from rfl] at iw
    refine aC (N:=10) Tryz.func54 rfl rfl fun z hP hO hro hN hQ=>?_
    repeat' first |simp(disch:=first |omega |assumption) only[go_sem, *] | (apply xs<;>intro _)<;>try omega |refine fun (_ _:List Nat)=>?_ | (first |refine aT Tryz.func208 rfl ?_ ?_ ?_ ?_ |fail)<;>intros
    exact S.cg bG bH
   ·rw[if_neg c1]
    have c2:x.st=2:=by omega
    rw[c2,show ((2:Nat):Int)=2 from rfl] at iw
    refine aC (N:=10) Tryz.func54 rfl rfl fun z hP hO hro hN hQ=>?_
    repeat' first |simp(disch:=first |omega |assumption) only[go_sem, *] | (apply xs<;>intro _)<;>try omega |refine fun (_ _:List Nat)=>?_ | (first |refine aT Tryz.func208 rfl ?_ ?_ ?_ ?_ |fail)<;>intros
    exact S.cg bG bH
set_option maxRecDepth 100000 in
set_option maxHeartbeats 2000000 in
theorem Mt {ns nb:Nat}:qu (g_ ns nb) ns (gP ns nb) sH nY:=by
 refine⟨fun {h n d C s k t} S R ht he=>?_,fun {h n d C s k t} S R ht he=>?_⟩
 ·have hrow:=R.sec t ht
  have he':(s.S t).br=true:=he
  unfold sH
  cases hS:s.S t with
  |no=>rw[hS] at he';simp[fX.br] at he'
  |bB b sd=>rw[hS] at he';simp[fX.br] at he'
  |ct b=>
   rw[hS] at hrow
   obtain⟨b1,b2,b3,b4⟩:=hrow
   have g8:=S.at b2
   have g9:=S.at b3
   have Ma:=S.at b4
   simp only[oY,List.cons_append,List.nil_append] at g9
   clear R b1 b2 b3 b4 he he' hS
   refine aC (N:=10) Tryz.func53 rfl rfl fun z hP hO hro hN hQ=>?_
   repeat' first |simp(disch:=first |omega |assumption) only[go_sem, *] | (apply xs<;>intro _)<;>try omega |refine fun (_ _:List Nat)=>?_ | (first |refine aT Tryz.func215 rfl ?_ ?_ ?_ ?_ |fail)<;>intros
  |seen b sd=>
   rw[hS] at hrow
   obtain⟨b1,b2,b3,b4⟩:=hrow
   have g8:=S.at b2
   have g9:=S.at b3
   have Ma:=S.at b4
   simp only[oY,List.cons_append,List.nil_append] at g9
   clear R b1 b2 b3 b4 he he' hS
   generalize 4*b+1+sd.toNat=q at*
   have hq: ¬ (q:Int)<0:=by omega
   refine aC (N:=10) Tryz.func53 rfl rfl fun z hP hO hro hN hQ=>?_
   repeat' first |simp(disch:=first |omega |assumption) only[go_sem, *] | (apply xs<;>intro _)<;>try omega |refine fun (_ _:List Nat)=>?_ | (first |refine aT Tryz.func215 rfl ?_ ?_ ?_ ?_ |fail)<;>intros
 ·obtain⟨x,hX⟩:=Option.isSome_iff_exists.1 (show (s.X t).isSome=true from he)
  obtain⟨off,fl,Lf,b,r,w⟩:=R.wa t x ht hX
  have n_:=S.at w.Ar
  have iw:=S.at w.RM
  have hp:nY s t=IL x.ph:=by unfold nY;rw[hX]
  rw[hp]
  have hp0:IL x.ph≠0:=by
   unfold IL
   repeat' split
   all_goals decide
  simp only[bV] at iw
  generalize IL x.ph=pc at*
  generalize Y6 x.ph=fn at*
  clear R w he hX hp
  refine aC (N:=10) Tryz.func54 rfl rfl fun z hP hO hro hN hQ=>?_
  repeat' first |simp(disch:=first |omega |assumption) only[go_sem, *] | (apply xs<;>intro _)<;>try omega |refine fun (_ _:List Nat)=>?_ | (first |refine aT Tryz.func217 rfl ?_ ?_ ?_ ?_ |fail)<;>intros
end Go.Proofs.YtbceiadaihphaaaGreat
