/-
  A part of the proof: contracts of inner functions.
-/
import Derived.Test.YtbceiadaihphaaaGreatAmU6
set_option linter.unusedSimpArgs false
set_option linter.unusedVariables false
namespace Go.Am
@[go_sem] theorem wrap_i64 {x:Int} (h1 : -9223372036854775808≤x) (h2:x<9223372036854775808):IntKind.i64.wrap x=x:=by
 unfold IntKind.wrap
 have e1:(2:Int)^IntKind.i64.bits=18446744073709551616:=by rfl
 have e2:(2:Int)^(IntKind.i64.bits-1)=9223372036854775808:=by rfl
 simp only[e1,e2,IntKind.signed,Bool.true_and,decide_eq_true_eq]
 split<;>omega
@[go_sem] theorem wrap_u64 {x:Int} (h1:0≤x) (h2:x<18446744073709551616):IntKind.u64.wrap x=x:=by
 unfold IntKind.wrap
 simp only[IntKind.bits,IntKind.signed,Bool.false_and,if_false]
 simp only[Bool.false_eq_true,if_false]
 omega
@[go_sem] theorem wrap_u8 {x:Int} (h1:0≤x) (h2:x<256):IntKind.u8.wrap x=x:=by
 unfold IntKind.wrap
 simp only[IntKind.bits,IntKind.signed,Bool.false_and]
 simp only[Bool.false_eq_true,if_false]
 omega
@[go_sem] theorem Gj:((0:Nat):Int)=0:=rfl
theorem dG {z:Zx} {c:Code} {K:List KF} (I:Nat→Tm→PT aj→Nat→Prop) {m:Tm} {h:PT aj} {n:Nat} (t:Nat) (h0:I t m h n)
  (step:∀ t m h n,(∀ t' m' h' n',t'<t→I t' m' h' n'→eZ z (.loop c) K m' h' n')→I t m h n→eZ z c (.loop c::K) m h n):eZ z (.loop c) K m h n:=by
 have key:∀ k t m h n,t<k→I t m h n→eZ z (.loop c) K m h n:=by
  intro k
  induction k with
  |zero=>intro t m h n ht;omega
  |succ k ih=>
   intro t m h n ht hI
   rw[cE]
   exact step t m h n (fun t' m' h' n' ht' hI'=>ih t' m' h' n' (by omega) hI') hI
 exact key (t+1) t m h n (by omega) h0
def nS (k:IntKind) (h:PT aj) (s:Value) (xs:List Int):Prop:=
 (s = .slice none 0 0∧xs=[])∨∃ b off sp cap L ro,s = .slice (some ⟨b,off,sp⟩) xs.length cap∧h.get b=some (.cells (PT.ofList .leaf 0 L) ro)∧(Nat.ble (off+xs.length) L.length||Nat.beq xs.length 0)=true∧(L.drop off).take xs.length=xs.map (.int k)
theorem BI {k:IntKind} {L:List Value} {off:Nat} {xs:List Int} (hT:(L.drop off).take xs.length=xs.map (.int k)) (i:Nat) (hi:i<xs.length):L[off+i]? = some (.int k (xs.getD i 0)):=by
 have h2:((L.drop off).take xs.length)[i]? = (xs.map (Value.int k))[i]? := by rw[hT]
 rw[List.getElem?_take,if_pos hi,List.getElem?_drop] at h2
 rw[h2,List.getElem?_map,List.getElem?_eq_getElem hi]
 simp[List.getD,List.getElem?_eq_getElem hi]
theorem nS.len {k:IntKind} {h:PT aj} {s:Value} {xs:List Int} (hs:nS k h s xs):∃ a cap,s = .slice a xs.length cap∧∀ i,i<xs.length→∃ b off sp L ro,a=some ⟨b,off,sp⟩∧h.get b=some (.cells (PT.ofList .leaf 0 L) ro)∧L[off+i]? = some (.int k (xs.getD i 0)):=by
 rcases hs with ⟨rfl,rfl⟩ | ⟨b,off,sp,cap,L,ro,rfl,hb,_,hT⟩
 ·exact⟨none,0,rfl,fun i hi=>by simp at hi⟩
 ·exact⟨_,cap,rfl,fun i hi=>⟨b,off,sp,L,ro,rfl,hb,BI hT i hi⟩⟩
def mQ (k:IntKind):List Value→Option (List Int)
 | []=>some []
 | .int k' x::r=>if k'=k then (mQ k r).map (x::·) else none
 | _::_=>none
theorem lT {k:IntKind}:∀ (xs:List Int),mQ k (xs.map (.int k))=some xs
 | []=>rfl
 |x::xs=>by simp[mQ,lT xs]
def y2 (k:IntKind) (s:Value):AP (List Int):=match s with
 | .slice none 0 0 => .pure []
 | .slice (some a) n _ => .get a.block fun
  | .cells c _=>match bp c a.off n with
   |some l=>AP.opt "" (mQ k l) .pure
   |none => .fail ""
  | _ => .fail ""
 | _ => .fail ""
@[go_sem] theorem LG {k:IntKind}:y2 k (.slice none 0 0) = .pure []:=rfl
def Xp (k:IntKind) (off n:Nat):aj→AP (List Int)
 | .cells c _=>match bp c off n with
  |some l=>AP.opt "" (mQ k l) .pure
  |none => .fail ""
 | _ => .fail ""
@[go_sem] theorem uP {k:IntKind} {b off n c:Nat} {sp:Option Nat}:y2 k (.slice (some ⟨b,off,sp⟩) n c) = .get b (Xp k off n):=rfl
@[go_sem] theorem HR {k:IntKind} {off n:Nat} {L:List Value} {ro:Bool}:Xp k off n (.cells (PT.ofList .leaf 0 L) ro)=cond (Nat.ble (off+n) L.length||Nat.beq n 0) (AP.opt "" (mQ k ((L.drop off).take n)) .pure) (.fail ""):=by
 simp only[Xp,dO]
 cases (Nat.ble (off+n) L.length||Nat.beq n 0)<;>rfl
@[go_sem] theorem QY {α β:Type} {w:String} {a:α} {k:α→AP β}:AP.opt w (some a) k=k a:=rfl
attribute [go_sem] lT
end Go.Am
namespace Go.Am
inductive Plain:Value→Prop
 |bool (b:Bool):Plain (.bool b)
 |int (k:IntKind) (n:Int):Plain (.int k n)
 |string (s:ByteArray):Plain (.string s)
 |gE:Plain (.pointer none)
 |nilslice (n c:Nat):Plain (.slice none n c)
 |gF:Plain (.map none)
 |fJ:Plain .nilFunc
 |dh:Plain .nilIface
 |agg (l:List Value) (h:∀ v∈l,Plain v):Plain (.agg ⟨l⟩)
 |tuple (l:List Value) (h:∀ v∈l,Plain v):Plain (.tuple ⟨l⟩)
theorem Plain.ren {I:Nat→Nat→Prop} {Old:Value→Prop} {v:Value} (h:Plain v):gl I Old v v:=by
 induction h with
 |bool b=>exact .bool b
 |int k n=>exact .int k n
 |string s=>exact .string s
 |gE=>exact .gE
 |nilslice n c=>exact .nilslice n c
 |gF=>exact .gF
 |fJ=>exact .fJ
 |dh=>exact .dh
 |agg l _ ih=>exact .agg l l (cY.refl l ih)
 |tuple l _ ih=>exact .tuple l l (cY.refl l ih)
def Rows (h:PT aj):Prop:=∀ i c ro,h.get i=some (.cells c ro)→∃ L,c = .ofList .leaf 0 L
theorem uQ {P:Program} {O:dK} (hO:eU P O) (mZ:P.follows .mixedOrders=true) {f:FuncId} {spec:List Value→Option (AP Value)}
  (H:∀ args m,spec args=some m→∃ Pre:PT aj→Value→Prop,(∀ h n v s',Rows h→m.run 0 (S0 h n) = .ok v s'→s'=S0 h n∧Plain v∧Pre h v)∧
   ∀ h N v,(∀ i B,h.get i=some B→i<N)→Pre h v→b9 P O f args h N fun v2 h2 n2=>v2=v∧∀ i,i<N→h2.get i=h.get i):iX P f spec:=by
 refine K8 hO mZ ?_
 intro args m hm h n N Old ju v h1 n1 hr hold hid hn
 obtain⟨Pre,hq,hB⟩:=H args m hm
 obtain⟨hs,hp,hpre⟩:=hq h n v _ hold.rows hr
 have e1:h1=h:=congrArg HS.heap hs
 have e2:n1=n:=congrArg HS.next hs
 subst e1 e2
 have hlt:∀ i B,h1.get i=some B→i<N:=fun i B hi=>(hid i (hold.id i B hi)).1
 obtain⟨k,v2,h2,n2,e,rfl,hk⟩:=hB h1 N v hlt hpre
 exact⟨k,v2,h2,n2,e,fun i=>i,fun i h1 h2=>by omega,fun i j _ _ _ _ h=>h,hp.ren,fun i B hi => .inl ⟨hi,by rw[hk i (hlt i B hi)];exact hi⟩⟩
theorem b9.mono {P:Program} {O:dK} {f:FuncId} {args:List Value} {h:PT aj} {n:Nat} {R R':Value→PT aj→Nat→Prop} (e:b9 P O f args h n R) (hR:∀ v h n,R v h n→R' v h n):b9 P O f args h n R':=by
 obtain⟨k,v,h',n',e,r⟩:=e
 exact⟨k,v,h',n',e,hR _ _ _ r⟩
def Kept (h0 h:PT aj):Prop:=∀ i B,h0.get i=some B→h.get i=some B
theorem Kept.refl (h:PT aj):Kept h h:=fun _ _ e=>e
theorem Kept.set {h0 h:PT aj} {N j:Nat} {b:Option aj} (hN:∀ i B,h0.get i=some B→i<N) (hj:N≤j) (hk:Kept h0 h):Kept h0 (h.set j b):=by
 intro i B e
 have:=hN i B e
 rw[PT.cF _ _ (by omega)]
 exact hk i B e
theorem nS.keep {k:IntKind} {h0 h:PT aj} {s:Value} {xs:List Int} (hs:nS k h0 s xs) (hk:Kept h0 h):nS k h s xs:=by
 rcases hs with hs | ⟨b,off,sp,cap,L,ro,e,hb,hB,hT⟩
 ·exact .inl hs
 ·exact .inr ⟨b,off,sp,cap,L,ro,e,hk _ _ hb,hB,hT⟩
@[go_sem] theorem Ow {α β γ:Type} (p:AP α) (f:α→AP β) (g:β→AP γ):(p.bind f).bind g=p.bind fun a=>(f a).bind g:=by
 induction p with
 |pure a=>rfl
 |fail w=>rfl
 |get id k ih=>simp only[AP.bind];congr 1;funext b;exact ih b
 |set id b k ih=>simp only[AP.bind,ih]
 |kill id k ih=>simp only[AP.bind,ih]
 |new b k ih=>simp only[AP.bind];congr 1;funext i;exact ih i
theorem run_pure {v u:Value} {h:PT aj} {n:Nat} {s':HS} (e:(AP.pure u).run 0 (S0 h n) = .ok v s'):s'=S0 h n∧v=u:=by
 simp only[AP.run,bw.ok.injEq] at e;exact⟨e.2.symm,e.1.symm⟩
end Go.Am
namespace Go.Am
open Go.RowKit
def AP.look {α:Type} (h:PT aj):AP α→Option α
 | .pure a=>some a
 | .get id k=>match h.get id with
  |some b=>(k b).look h
  |none=>none
 | _=>none
inductive Reads {α:Type}:AP α→Prop
 |pure (a:α):Reads (.pure a)
 |fail (w:String):Reads (.fail w)
 |get (id:Nat) (k:aj→AP α) (h:∀ b,Reads (k b)):Reads (.get id k)
theorem Reads.bind {α β:Type} {p:AP α} {f:α→AP β} (hp:Reads p) (hf:∀ a,Reads (f a)):Reads (p.bind f):=by
 induction hp with
 |pure a=>exact hf a
 |fail w=>exact .fail w
 |get id k _ ih=>exact .get id _ ih
theorem Reads.cond {α:Type} {b:Bool} {p q:AP α} (hp:Reads p) (hq:Reads q):Reads (cond b p q):=by cases b<;>assumption
theorem Reads.opt {α β:Type} {w:String} {o:Option α} {f:α→AP β} (hf:∀ a,Reads (f a)):Reads (AP.opt w o f):=by cases o<;>first |exact .fail _ |exact hf _
theorem Reads.run {α:Type} {p:AP α} (hp:Reads p) {h:PT aj} {n:Nat} {a:α} {s':HS} (e:p.run 0 (S0 h n) = .ok a s'):s'=S0 h n∧p.look h=some a:=by
 induction hp with
 |pure b=>simp only[AP.run,bw.ok.injEq] at e;exact⟨e.2.symm,by rw[AP.look,e.1]⟩
 |fail w=>simp[AP.run] at e
 |get id k _ ih=>
  simp only[AP.run,show (S0 h n).heap=h from rfl] at e
  cases hb:h.get id with
  |none=>rw[hb] at e;simp at e
  |some b=>
   rw[hb] at e
   simp only[AP.look,hb]
   exact ih b e
theorem nS.look {k:IntKind} {h:PT aj} {s:Value} {xs:List Int} (hs:nS k h s xs):(y2 k s).look h=some xs:=by
 rcases hs with ⟨rfl,rfl⟩ | ⟨b,off,sp,cap,L,ro,rfl,hb,hB,hT⟩
 ·rfl
 ·rw[uP];simp only[AP.look,hb,HR,hB,hT,lT];rfl
theorem lU {P:Program} {O:dK} (hO:eU P O) (mZ:P.follows .mixedOrders=true) {f:FuncId} {spec:List Value→Option (AP Value)} (hR:∀ args m,spec args=some m→Reads m)
  (hP:∀ args m h v,spec args=some m→m.look h=some v→Plain v)
  (H:∀ args m h N v,spec args=some m→Rows h→(∀ i B,h.get i=some B→i<N)→m.look h=some v→b9 P O f args h N fun v2 h2 n2=>v2=v∧∀ i,i<N→h2.get i=h.get i):iX P f spec:=by
 refine uQ hO mZ ?_
 intro args m hm
 refine⟨fun h v=>Rows h∧m.look h=some v,fun h n v s' QZ e=>?_,fun h N v hlt hv=>H args m h N v hm hv.1 hlt hv.2⟩
 obtain⟨h1,h2⟩:=(hR args m hm).run e
 exact⟨h1,hP args m h v hm h2,QZ,h2⟩
def r7:List Value→Option (AP Value)
 | []=>some (.pure (.bool true))
 | _=>none
theorem Ae {P:Program} {O:dK} (hO:eU P O) (mZ:P.follows .mixedOrders=true) {fuel:Nat} {f:FuncId} (hl:qJ P O fuel f=true):iX P f r7:=by
 intro args m hm Γ W w h n lim rd wr args' v s' ha hS hr hfree
 unfold r7 at hm
 split at hm
 ·simp only[Option.some.injEq] at hm
  subst hm
  cases ha
  simp only[AP.run,bw.ok.injEq] at hr
  obtain⟨rfl,rfl⟩:=hr
  unfold qJ at hl
  cases hc:fD P O (kX P O fuel) 0 f [] uj with
  |fail q=>rw[hc] at hl;simp[isTrue] at hl
  |ok v s'=>
   rw[hc] at hl
   have hv:v = .bool true:=by
    unfold isTrue at hl
    split at hl
    ·rename_i he;simp only[bw.ok.injEq] at he;exact he.1
    ·simp at hl
   subst hv
   have hS0:bq ⟨fun _=>none,fun _=>none⟩ w .leaf w:=
    ⟨.refl _ _,fun _ _=>rfl,fun i B hB=>by simp at hB,fun i j B B' b s b' s' _ hB=>by simp at hB,fun i b s hb=>by simp at hb,fun b n hb=>by simp at hb,⟨0,fun _ _=>rfl⟩,fun i c ro e=>by simp at e⟩
   have:=nN hO (oJ hO mZ fuel).1 (pI fuel) hc (Nat.le_refl _) (fun id _=>by simp[uj]) hS0 (fun id b hb=>hb) .nil (fun _ _ _=>rfl) none
   refine CallsIn.mono (show CallsIn Fence.wide 0 P f ⟨[]⟩ w _ from this) ?_
   rintro en w' ⟨Hs,v',H',rfl,hex,Ny⟩
   cases Ny
   have hb:=hex.rel.below
   have hsame:∀ i,i<w.heap.size→w'.heap[i]? = w.heap[i]? := hb.block
   refine⟨Γ,.bool true,rfl,.refl _,⟨?_,fun a ha=>(hex.rel.fz a (Nat.lt_of_lt_of_le ha hS.below.size)).trans (hS.fz a ha),?_,hS.lD,?_,?_,hS.fin,hS.rows⟩,fun _ _=>rfl,.bool _⟩
   ·exact⟨hb.os.trans hS.below.os,hb.tape.trans hS.below.tape,hb.output.trans hS.below.output,Nat.le_trans hS.below.size hb.size,fun i hi=>(hsame i (Nat.lt_of_lt_of_le hi hS.below.size)).trans (hS.below.block i hi)⟩
   ·intro i B hi
    obtain⟨b,s,e,r,hw⟩:=hS.live i B hi
    exact⟨b,s,e,r.world (hsame b (hS.dom i b s e)),hw⟩
   ·intro i b s e
    exact Nat.lt_of_lt_of_le (hS.dom i b s e) hb.size
   ·intro b n e
    obtain⟨c,el,fz,h1,h2⟩:=hS.iB b n e
    exact⟨c,el,fz,(hsame b (eS h1)).trans h1,h2⟩
 ·simp at hm
theorem EL {z:Zx} {f:FuncId} {args:List Value} {d:Option Nat} {ops r:List Oper} {K:List KF} {m:Tm} {h:PT aj} {n:Nat} {R:Value→PT aj→Nat→Prop} (hm:m.n=z.N) (hO:z.O f args=none)
  (e:b9 z.P z.O f args h n R) (hk:∀ v h' n',R v h' n'→kU z (.pure (.value v)) d ops r K m h' n'):kU z (.pure (.enter f args)) d ops r K m h n:=by
 obtain⟨k,v,h',n',e,hR⟩:=e
 obtain⟨_,k2,m',h2,n2,e2,q⟩:=hk v h' n' hR
 refine⟨hm,max k k2,m',h2,n2,?_,q⟩
 simp only[AP.run,aK,f_,fD,hO] at e2 ⊢
 rw[mN (ez (Nat.le_max_left k k2)) e,aK]
 exact bN (fun _ _ q=>q) (fun a s _ b s' q=>oK (ez (Nat.le_max_right k k2)) r q) e2
theorem EM {z:Zx} {f:FuncId} {args:List Value} {d:Option Nat} {ops r:List Oper} {K:List KF} {m:Tm} {h:PT aj} {n:Nat} {R:Value→PT aj→Nat→Prop} (hm:m.n=z.N) (hO:z.O f args=none)
  (e:b9 z.P z.O f args h n R) (hk:∀ v h' n',R v h' n'→kU z (.pure (.value v)) d ops r K m h' n'):K3 z none f args d ops r K m h n:=EL hm hO e hk
end Go.Am
