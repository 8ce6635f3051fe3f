/-
  A part of the proof: contracts of inner functions.
-/
import Derived.Test.YtfhmopghjoeamaaGreatAmU6
set_option linter.unusedSimpArgs false
set_option linter.unusedVariables false
namespace Go.Am
@[go_sem] theorem wrap_i64 {x:Int} (h1 : -9223372036854775808≤x) (h2:x<9223372036854775808):IntKind.i64.wrap x=x:=by
 unfold IntKind.wrap
 have e1:(2:Int)^IntKind.i64.bits=18446744073709551616:=by rfl
 have e2:(2:Int)^(IntKind.i64.bits-1)=9223372036854775808:=by rfl
 simp only[e1,e2,IntKind.signed,Bool.true_and,decide_eq_true_eq]
 split<;>omega
@[go_sem] theorem wrap_u64 {x:Int} (h1:0≤x) (h2:x<18446744073709551616):IntKind.u64.wrap x=x:=by
 unfold IntKind.wrap
 simp only[IntKind.bits,IntKind.signed,Bool.false_and,if_false]
 simp only[Bool.false_eq_true,if_false]
 omega
@[go_sem] theorem Eo:((0:Nat):Int)=0:=rfl
theorem cU {z:Zx} {c:Code} {K:List KF} (I:Nat→Tm→PT aj→Nat→Prop) {m:Tm} {h:PT aj} {n:Nat} (t:Nat) (h0:I t m h n)
  (step:∀ t m h n,(∀ t' m' h' n',t'<t→I t' m' h' n'→ez z (.loop c) K m' h' n')→I t m h n→ez z c (.loop c::K) m h n):ez z (.loop c) K m h n:=by
 have key:∀ k t m h n,t<k→I t m h n→ez z (.loop c) K m h n:=by
  intro k
  induction k with
  |zero=>intro t m h n ht;omega
  |succ k ih=>
   intro t m h n ht hI
   rw[ct]
   exact step t m h n (fun t' m' h' n' ht' hI'=>ih t' m' h' n' (by omega) hI') hI
 exact key (t+1) t m h n (by omega) h0
def aS (k:IntKind) (h:PT aj) (s:Value) (xs:List Int):Prop:=
 (s = .slice none 0 0∧xs=[])∨∃ b off sp cap L ro,s = .slice (some ⟨b,off,sp⟩) xs.length cap∧h.get b=some (.cells (PT.ofList .leaf 0 L) ro)∧(Nat.ble (off+xs.length) L.length||Nat.beq xs.length 0)=true∧(L.drop off).take xs.length=xs.map (.int k)
theorem aS.C_ {k:IntKind} {h:PT aj} {s:Value} {xs:List Int} (hs:aS k h s xs):(s = .slice none 0 0∧xs=[])∨(∃ b off sp cap L ro,s = .slice (some ⟨b,off,sp⟩) 0 cap∧xs=[]∧h.get b=some (.cells (PT.ofList .leaf 0 L) ro))∨
  ∃ b off sp cap L ro,s = .slice (some ⟨b,off,sp⟩) xs.length cap∧h.get b=some (.cells (PT.ofList .leaf 0 L) ro)∧off+xs.length≤L.length∧(L.drop off).take xs.length=xs.map (.int k):=by
 rcases hs with hs | ⟨b,off,sp,cap,L,ro,rfl,hb,hB,hT⟩
 ·exact .inl hs
 ·simp only[Bool.or_eq_true] at hB
  rcases hB with hB |hB
  ·exact .inr (.inr ⟨b,off,sp,cap,L,ro,rfl,hb,Nat.le_of_ble_eq_true hB,hT⟩)
  ·have:=Nat.eq_of_beq_eq_true hB
   obtain rfl:xs=[]:=List.eq_nil_of_length_eq_zero this
   exact .inr (.inl ⟨b,off,sp,cap,L,ro,rfl,rfl,hb⟩)
theorem Al {k:IntKind} {L:List Value} {off:Nat} {xs:List Int} (hT:(L.drop off).take xs.length=xs.map (.int k)) (i:Nat) (hi:i<xs.length):L[off+i]? = some (.int k (xs.getD i 0)):=by
 have h2:((L.drop off).take xs.length)[i]? = (xs.map (Value.int k))[i]? := by rw[hT]
 rw[List.getElem?_take,if_pos hi,List.getElem?_drop] at h2
 rw[h2,List.getElem?_map,List.getElem?_eq_getElem hi]
 simp[List.getD,List.getElem?_eq_getElem hi]
theorem aS.len {k:IntKind} {h:PT aj} {s:Value} {xs:List Int} (hs:aS k h s xs):∃ a cap,s = .slice a xs.length cap∧∀ i,i<xs.length→∃ b off sp L ro,a=some ⟨b,off,sp⟩∧h.get b=some (.cells (PT.ofList .leaf 0 L) ro)∧L[off+i]? = some (.int k (xs.getD i 0)):=by
 rcases hs with ⟨rfl,rfl⟩ | ⟨b,off,sp,cap,L,ro,rfl,hb,_,hT⟩
 ·exact⟨none,0,rfl,fun i hi=>by simp at hi⟩
 ·exact⟨_,cap,rfl,fun i hi=>⟨b,off,sp,L,ro,rfl,hb,Al hT i hi⟩⟩
def dL (k:IntKind):List Value→Option (List Int)
 | []=>some []
 | .int k' x::r=>if k'=k then (dL k r).map (x::·) else none
 | _::_=>none
theorem lM {k:IntKind}:∀ {l:List Value} {xs:List Int},dL k l=some xs→l=xs.map (.int k)
 | [],xs,e=>by simp only[dL,Option.some.injEq] at e;subst e;rfl
 |v::r,xs,e=>by
  unfold dL at e
  split at e
  ·rename_i h;simp at h
  ·rename_i k' x r' hr
   split at e
   ·rename_i hk
    subst hk
    simp only[List.cons.injEq] at hr
    obtain⟨rfl,rfl⟩:=hr
    cases hd:dL k' r with
    |none=>rw[hd] at e;simp at e
    |some ys=>rw[hd] at e;simp only[Option.map_some,Option.some.injEq] at e;subst e;rw[lM hd];rfl
   ·simp at e
  ·simp at e
theorem fJ {k:IntKind}:∀ (xs:List Int),dL k (xs.map (.int k))=some xs
 | []=>rfl
 |x::xs=>by simp[dL,fJ xs]
def dJ (k:IntKind) (s:Value):AP (List Int):=match s with
 | .slice none 0 0 => .pure []
 | .slice (some a) n _ => .get a.block fun
  | .cells c _=>match aQ c a.off n with
   |some l=>AP.opt "" (dL k l) .pure
   |none => .fail ""
  | _ => .fail ""
 | _ => .fail ""
theorem qw {k:IntKind} {s:Value} {h:PT aj} {n:Nat} {xs:List Int} {s':HS} (hR:∀ i c ro,h.get i=some (.cells c ro)→∃ L,c = .ofList .leaf 0 L) (e:(dJ k s).run 0 (S0 h n) = .ok xs s'):s'=S0 h n∧aS k h s xs:=by
 unfold dJ at e
 split at e
 ·simp only[AP.run,aW.ok.injEq] at e
  exact⟨e.2.symm,.inl ⟨rfl,e.1.symm⟩⟩
 ·rename_i a len cap
  simp only[AP.run,show (S0 h n).heap=h from rfl] at e
  cases hb:h.get a.block with
  |none=>rw[hb] at e;simp at e
  |some B=>
   rw[hb] at e
   simp only[show Nat.blt a.block 0=false from rfl,cond_false] at e
   cases B with
   |cells c ro=>
    obtain⟨L,rfl⟩:=hR _ _ _ hb
    simp only[cN] at e
    cases hc:(Nat.ble (a.off+len) L.length||Nat.beq len 0) with
    |false=>rw[hc] at e;simp[AP.run] at e
    |true=>
     rw[hc] at e
     simp only[cond_true,AP.opt] at e
     cases hd:dL k ((L.drop a.off).take len) with
     |none=>rw[hd] at e;simp[AP.run] at e
     |some ys=>
      rw[hd] at e
      simp only[AP.run,aW.ok.injEq] at e
      obtain⟨rfl,rfl⟩:=e
      have:=lM hd
      have hlen:len=ys.length:=by
       have h1:((L.drop a.off).take len).length=ys.length:=by rw[this];simp
       simp only[Bool.or_eq_true] at hc
       rcases hc with hc |hc
       ·have:=Nat.le_of_ble_eq_true hc
        simp at h1;omega
       ·have:=Nat.eq_of_beq_eq_true hc
        simp at h1;omega
      subst hlen
      exact⟨rfl,.inr ⟨a.block,a.off,a.spot,cap,L,ro,rfl,hb,hc,this⟩⟩
   | _=>simp[AP.run] at e
 ·simp[AP.run] at e
@[go_sem] theorem JF {k:IntKind}:dJ k (.slice none 0 0) = .pure []:=rfl
def Ur (k:IntKind) (off n:Nat):aj→AP (List Int)
 | .cells c _=>match aQ c off n with
  |some l=>AP.opt "" (dL k l) .pure
  |none => .fail ""
 | _ => .fail ""
@[go_sem] theorem mK {k:IntKind} {b off n c:Nat} {sp:Option Nat}:dJ k (.slice (some ⟨b,off,sp⟩) n c) = .get b (Ur k off n):=rfl
@[go_sem] theorem yU {k:IntKind} {off n:Nat} {L:List Value} {ro:Bool}:Ur k off n (.cells (PT.ofList .leaf 0 L) ro)=cond (Nat.ble (off+n) L.length||Nat.beq n 0) (AP.opt "" (dL k ((L.drop off).take n)) .pure) (.fail ""):=by
 simp only[Ur,cN]
 cases (Nat.ble (off+n) L.length||Nat.beq n 0)<;>rfl
@[go_sem] theorem Oc {α β:Type} {w:String} {a:α} {k:α→AP β}:AP.opt w (some a) k=k a:=rfl
attribute [go_sem] fJ
end Go.Am
set_option linter.unusedSimpArgs false
set_option linter.unusedVariables false
namespace Go.Am
inductive Plain:Value→Prop
 |bool (b:Bool):Plain (.bool b)
 |int (k:IntKind) (n:Int):Plain (.int k n)
 |string (s:ByteArray):Plain (.string s)
 |eX:Plain (.pointer none)
 |nilslice (n c:Nat):Plain (.slice none n c)
 |eY:Plain (.map none)
 |dY:Plain .nilFunc
 |cE:Plain .nilIface
 |agg (l:List Value) (h:∀ v∈l,Plain v):Plain (.agg ⟨l⟩)
 |tuple (l:List Value) (h:∀ v∈l,Plain v):Plain (.tuple ⟨l⟩)
theorem Plain.ren {I:Nat→Nat→Prop} {Old:Value→Prop} {v:Value} (h:Plain v):eN I Old v v:=by
 induction h with
 |bool b=>exact .bool b
 |int k n=>exact .int k n
 |string s=>exact .string s
 |eX=>exact .eX
 |nilslice n c=>exact .nilslice n c
 |eY=>exact .eY
 |dY=>exact .dY
 |cE=>exact .cE
 |agg l _ ih=>exact .agg l l (bQ.refl l ih)
 |tuple l _ ih=>exact .tuple l l (bQ.refl l ih)
def Rows (h:PT aj):Prop:=∀ i c ro,h.get i=some (.cells c ro)→∃ L,c = .ofList .leaf 0 L
theorem b8 {P:Program} {O:Over} (hO:cr P O) (kY:P.follows .mixedOrders=true) {f:FuncId} {spec:List Value→Option (AP Value)}
  (H:∀ args m,spec args=some m→∃ Pre:PT aj→Value→Prop,(∀ h n v s',Rows h→m.run 0 (S0 h n) = .ok v s'→s'=S0 h n∧Plain v∧Pre h v)∧
   ∀ h N v,(∀ i B,h.get i=some B→i<N)→Pre h v→cT P O f args h N fun v2 h2 n2=>v2=v∧∀ i,i<N→h2.get i=h.get i):bR P f spec:=by
 refine xN hO kY ?_
 intro args m hm h n N Old dP v h1 n1 hr hold hid hn
 obtain⟨Pre,hq,hB⟩:=H args m hm
 obtain⟨hs,hp,hpre⟩:=hq h n v _ hold.rows hr
 have e1:h1=h:=congrArg HS.heap hs
 have e2:n1=n:=congrArg HS.next hs
 subst e1 e2
 have hlt:∀ i B,h1.get i=some B→i<N:=fun i B hi=>(hid i (hold.id i B hi)).1
 obtain⟨k,v2,h2,n2,e,rfl,hk⟩:=hB h1 N v hlt hpre
 exact⟨k,v2,h2,n2,e,fun i=>i,fun i h1 h2=>by omega,fun i j _ _ _ _ h=>h,hp.ren,fun i B hi => .inl ⟨hi,by rw[hk i (hlt i B hi)];exact hi⟩⟩
theorem cT.mono {P:Program} {O:Over} {f:FuncId} {args:List Value} {h:PT aj} {n:Nat} {R R':Value→PT aj→Nat→Prop} (e:cT P O f args h n R) (hR:∀ v h n,R v h n→R' v h n):cT P O f args h n R':=by
 obtain⟨k,v,h',n',e,r⟩:=e
 exact⟨k,v,h',n',e,hR _ _ _ r⟩
def Kept (h0 h:PT aj):Prop:=∀ i B,h0.get i=some B→h.get i=some B
theorem Kept.refl (h:PT aj):Kept h h:=fun _ _ e=>e
theorem Kept.set {h0 h:PT aj} {N j:Nat} {b:Option aj} (hN:∀ i B,h0.get i=some B→i<N) (hj:N≤j) (hk:Kept h0 h):Kept h0 (h.set j b):=by
 intro i B e
 have:=hN i B e
 rw[PT.bJ _ _ (by omega)]
 exact hk i B e
theorem aS.keep {k:IntKind} {h0 h:PT aj} {s:Value} {xs:List Int} (hs:aS k h0 s xs) (hk:Kept h0 h):aS k h s xs:=by
 rcases hs with hs | ⟨b,off,sp,cap,L,ro,e,hb,hB,hT⟩
 ·exact .inl hs
 ·exact .inr ⟨b,off,sp,cap,L,ro,e,hk _ _ hb,hB,hT⟩
theorem qx {k:IntKind} {h0 h:PT aj} {s:Value} {xs:List Int} (hs:aS k h0 s xs) {z:Zx} {f:List Int→AP aE} {d:Option Nat} {ops r:List Oper} {K:List KF} {m:Tm} {n:Nat} (hk:Kept h0 h):
  iC z ((dJ k s).bind f) d ops r K m h n↔iC z (f xs) d ops r K m h n:=by
 rcases(hs.keep hk) with ⟨rfl,rfl⟩ | ⟨b,off,sp,cap,L,ro,rfl,hb,hB,hT⟩
 ·rfl
 ·rw[mK,CM,tJ,hb,qp,yU,hB,hT,fJ];rfl
@[go_sem] theorem LS {α β γ:Type} (p:AP α) (f:α→AP β) (g:β→AP γ):(p.bind f).bind g=p.bind fun a=>(f a).bind g:=by
 induction p with
 |pure a=>rfl
 |fail w=>rfl
 |get id k ih=>simp only[AP.bind];congr 1;funext b;exact ih b
 |set id b k ih=>simp only[AP.bind,ih]
 |kill id k ih=>simp only[AP.bind,ih]
 |new b k ih=>simp only[AP.bind];congr 1;funext i;exact ih i
theorem j5 {k:IntKind} {s:Value} {f:List Int→AP Value} {h:PT aj} {n:Nat} {v:Value} {s':HS} (hR:Rows h) (e:((dJ k s).bind f).run 0 (S0 h n) = .ok v s'):∃ xs,aS k h s xs∧(f xs).run 0 (S0 h n) = .ok v s':=by
 rw[run_bind] at e
 obtain⟨xs,s₁,e₁,e₂⟩:=aX e
 obtain⟨rfl,hi⟩:=qw hR e₁
 exact⟨xs,hi,e₂⟩
theorem run_pure {v u:Value} {h:PT aj} {n:Nat} {s':HS} (e:(AP.pure u).run 0 (S0 h n) = .ok v s'):s'=S0 h n∧v=u:=by
 simp only[AP.run,aW.ok.injEq] at e;exact⟨e.2.symm,e.1.symm⟩
theorem fK {b:Bool} {p:AP Value} {w:String} {h:PT aj} {n:Nat} {v:Value} {s':HS} (e:(cond b p (.fail w)).run 0 (S0 h n) = .ok v s'):b=true∧p.run 0 (S0 h n) = .ok v s':=by
 cases b with
 |false=>simp[AP.run] at e
 |true=>exact⟨rfl,e⟩
end Go.Am
set_option linter.unusedSimpArgs false
set_option linter.unusedVariables false
namespace Go.Am
open Go.RowKit
def AP.look {α:Type} (h:PT aj):AP α→Option α
 | .pure a=>some a
 | .get id k=>match h.get id with
  |some b=>(k b).look h
  |none=>none
 | _=>none
inductive Reads {α:Type}:AP α→Prop
 |pure (a:α):Reads (.pure a)
 |fail (w:String):Reads (.fail w)
 |get (id:Nat) (k:aj→AP α) (h:∀ b,Reads (k b)):Reads (.get id k)
theorem Reads.bind {α β:Type} {p:AP α} {f:α→AP β} (hp:Reads p) (hf:∀ a,Reads (f a)):Reads (p.bind f):=by
 induction hp with
 |pure a=>exact hf a
 |fail w=>exact .fail w
 |get id k _ ih=>exact .get id _ ih
theorem Reads.cond {α:Type} {b:Bool} {p q:AP α} (hp:Reads p) (hq:Reads q):Reads (cond b p q):=by cases b<;>assumption
theorem Reads.opt {α β:Type} {w:String} {o:Option α} {f:α→AP β} (hf:∀ a,Reads (f a)):Reads (AP.opt w o f):=by cases o<;>first |exact .fail _ |exact hf _
theorem Reads.run {α:Type} {p:AP α} (hp:Reads p) {h:PT aj} {n:Nat} {a:α} {s':HS} (e:p.run 0 (S0 h n) = .ok a s'):s'=S0 h n∧p.look h=some a:=by
 induction hp with
 |pure b=>simp only[AP.run,aW.ok.injEq] at e;exact⟨e.2.symm,by rw[AP.look,e.1]⟩
 |fail w=>simp[AP.run] at e
 |get id k _ ih=>
  simp only[AP.run,show (S0 h n).heap=h from rfl] at e
  cases hb:h.get id with
  |none=>rw[hb] at e;simp at e
  |some b=>
   rw[hb] at e
   simp only[AP.look,hb]
   exact ih b e
theorem kM {α:Type} {h h':PT aj} (hk:Kept h h'):∀ {p:AP α} {a:α},p.look h=some a→p.look h'=some a
 | .pure b,a,e=>e
 | .fail w,a,e=>by simp[AP.look] at e
 | .set ..,a,e=>by simp[AP.look] at e
 | .kill ..,a,e=>by simp[AP.look] at e
 | .new ..,a,e=>by simp[AP.look] at e
 | .get id k,a,e=>by
  simp only[AP.look] at e ⊢
  cases hb:h.get id with
  |none=>rw[hb] at e;simp at e
  |some b=>rw[hb] at e;rw[hk id b hb];exact kM hk e
theorem kN {α β:Type} {h:PT aj}:∀ (p:AP α) (f:α→AP β),(p.bind f).look h=(p.look h).bind fun a=>(f a).look h
 | .pure b,f=>rfl
 | .fail w,f=>rfl
 | .set ..,f=>rfl
 | .kill ..,f=>rfl
 | .new ..,f=>rfl
 | .get id k,f=>by
  simp only[AP.look,AP.bind]
  cases h.get id with
  |none=>rfl
  |some b=>exact kN (k b) f
theorem qy {α:Type} {h:PT aj} {n:Nat}:∀ {p:AP α} {a:α},p.look h=some a→p.run 0 (S0 h n) = .ok a (S0 h n)
 | .pure b,a,e=>by simp only[AP.look,Option.some.injEq] at e;subst e;rfl
 | .fail w,a,e=>by simp[AP.look] at e
 | .set ..,a,e=>by simp[AP.look] at e
 | .kill ..,a,e=>by simp[AP.look] at e
 | .new ..,a,e=>by simp[AP.look] at e
 | .get id k,a,e=>by
  simp only[AP.look] at e
  simp only[AP.run,show (S0 h n).heap=h from rfl]
  cases hb:h.get id with
  |none=>rw[hb] at e;simp at e
  |some b=>rw[hb] at e;exact qy e
theorem dg {α:Type} {p:AP α} {a:α} {h0 h:PT aj} (hs:p.look h0=some a) {z:Zx} {f:α→AP aE} {d:Option Nat} {ops r:List Oper} {K:List KF} {m:Tm} {n:Nat} (hk:Kept h0 h):
  iC z (p.bind f) d ops r K m h n↔iC z (f a) d ops r K m h n:=by
 unfold iC
 simp only[run_bind,qy (n:=n) (kM hk hs),aM]
theorem oE {k:IntKind} {h:PT aj} {s:Value} {xs:List Int} (e:(dJ k s).look h=some xs) (hR:Rows h):aS k h s xs:=(qw (n:=0) hR (qy e)).2
theorem aS.look {k:IntKind} {h:PT aj} {s:Value} {xs:List Int} (hs:aS k h s xs):(dJ k s).look h=some xs:=by
 rcases hs with ⟨rfl,rfl⟩ | ⟨b,off,sp,cap,L,ro,rfl,hb,hB,hT⟩
 ·rfl
 ·rw[mK];simp only[AP.look,hb,yU,hB,hT,fJ];rfl
theorem mL {k:IntKind} {s:Value}:Reads (dJ k s):=by
 unfold dJ
 split
 ·exact .pure _
 ·refine .get _ _ fun b=>?_
  split
  ·split
   ·exact .opt fun _ => .pure _
   ·exact .fail _
  ·exact .fail _
 ·exact .fail _
theorem cW {P:Program} {O:Over} (hO:cr P O) (kY:P.follows .mixedOrders=true) {f:FuncId} {spec:List Value→Option (AP Value)} (hR:∀ args m,spec args=some m→Reads m)
  (hP:∀ args m h v,spec args=some m→m.look h=some v→Plain v)
  (H:∀ args m h N v,spec args=some m→Rows h→(∀ i B,h.get i=some B→i<N)→m.look h=some v→cT P O f args h N fun v2 h2 n2=>v2=v∧∀ i,i<N→h2.get i=h.get i):bR P f spec:=by
 refine b8 hO kY ?_
 intro args m hm
 refine⟨fun h v=>Rows h∧m.look h=some v,fun h n v s' Od e=>?_,fun h N v hlt hv=>H args m h N v hm hv.1 hlt hv.2⟩
 obtain⟨h1,h2⟩:=(hR args m hm).run e
 exact⟨h1,hP args m h v hm h2,Od,h2⟩
def rZ:List Value→Option (AP Value)
 | []=>some (.pure (.bool true))
 | _=>none
theorem FK {P:Program} {O:Over} (hO:cr P O) (kY:P.follows .mixedOrders=true) {fuel:Nat} {f:FuncId} (hl:sO P O fuel f=true):bR P f rZ:=by
 intro args m hm Γ W w h n lim rd wr args' v s' ha hS hr hfree
 unfold rZ at hm
 split at hm
 ·simp only[Option.some.injEq] at hm
  subst hm
  cases ha
  simp only[AP.run,aW.ok.injEq] at hr
  obtain⟨rfl,rfl⟩:=hr
  unfold sO at hl
  cases hc:ew P O (jL P O fuel) 0 f [] sN with
  |fail q=>rw[hc] at hl;simp[isTrue] at hl
  |ok v s'=>
   rw[hc] at hl
   have hv:v = .bool true:=by
    unfold isTrue at hl
    split at hl
    ·rename_i he;simp only[aW.ok.injEq] at he;exact he.1
    ·simp at hl
   subst hv
   have hS0:aR ⟨fun _=>none,fun _=>none⟩ w .leaf w:=
    ⟨.refl _ _,fun _ _=>rfl,fun i B hB=>by simp at hB,fun i j B B' b s b' s' _ hB=>by simp at hB,fun i b s hb=>by simp at hb,fun b n hb=>by simp at hb,⟨0,fun _ _=>rfl⟩,fun i c ro e=>by simp at e⟩
   have:=lH hO (mJ hO kY fuel).1 (nI fuel) hc (Nat.le_refl _) (fun id _=>by simp[sN]) hS0 (fun id b hb=>hb) .nil (fun _ _ _=>rfl) none
   refine CallsIn.mono (show CallsIn Fence.wide 0 P f ⟨[]⟩ w _ from this) ?_
   rintro en w' ⟨AY,v',H',rfl,hex,I_⟩
   cases I_
   have hb:=hex.rel.below
   have hsame:∀ i,i<w.heap.size→w'.heap[i]? = w.heap[i]? := hb.block
   refine⟨Γ,.bool true,rfl,.refl _,⟨?_,fun a ha=>(hex.rel.fz a (Nat.lt_of_lt_of_le ha hS.below.size)).trans (hS.fz a ha),?_,hS.jf,?_,?_,hS.fin,hS.rows⟩,fun _ _=>rfl,.bool _⟩
   ·exact⟨hb.os.trans hS.below.os,hb.tape.trans hS.below.tape,hb.output.trans hS.below.output,Nat.le_trans hS.below.size hb.size,fun i hi=>(hsame i (Nat.lt_of_lt_of_le hi hS.below.size)).trans (hS.below.block i hi)⟩
   ·intro i B hi
    obtain⟨b,s,e,r,hw⟩:=hS.live i B hi
    exact⟨b,s,e,r.world (hsame b (hS.dom i b s e)),hw⟩
   ·intro i b s e
    exact Nat.lt_of_lt_of_le (hS.dom i b s e) hb.size
   ·intro b n e
    obtain⟨c,el,fz,h1,h2⟩:=hS.eT b n e
    exact⟨c,el,fz,(hsame b (cm h1)).trans h1,h2⟩
 ·simp at hm
theorem Da {z:Zx} {f:FuncId} {args:List Value} {d:Option Nat} {ops r:List Oper} {K:List KF} {m:Tm} {h:PT aj} {n:Nat} {R:Value→PT aj→Nat→Prop} (hm:m.n=z.N) (hO:z.O f args=none)
  (e:cT z.P z.O f args h n R) (hk:∀ v h' n',R v h' n'→iC z (.pure (.value v)) d ops r K m h' n'):iC z (.pure (.enter f args)) d ops r K m h n:=by
 obtain⟨k,v,h',n',e,hR⟩:=e
 obtain⟨_,k2,m',h2,n2,e2,q⟩:=hk v h' n' hR
 refine⟨hm,max k k2,m',h2,n2,?_,q⟩
 simp only[AP.run,aM,eS,ew,hO] at e2 ⊢
 rw[kK (fI (Nat.le_max_left k k2)) e,aM]
 exact bC (fun _ _ q=>q) (fun a s _ b s' q=>qn (fI (Nat.le_max_right k k2)) r q) e2
theorem vm {z:Zx} {f:FuncId} {args:List Value} {d:Option Nat} {ops r:List Oper} {K:List KF} {m:Tm} {h:PT aj} {n:Nat} {R:Value→PT aj→Nat→Prop} (hm:m.n=z.N) (hO:z.O f args=none)
  (e:cT z.P z.O f args h n R) (hk:∀ v h' n',R v h' n'→iC z (.pure (.value v)) d ops r K m h' n'):I3 z none f args d ops r K m h n:=Da hm hO e hk
end Go.Am
