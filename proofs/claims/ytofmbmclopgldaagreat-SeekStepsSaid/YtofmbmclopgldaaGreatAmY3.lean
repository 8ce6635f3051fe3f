/-
A part.
-/
import Derived.Test.YtofmbmclopgldaaGreatAmU6
set_option linter.all false
namespace Go.Am
@[go_sem] theorem wrap_i64{x:Int}(h1 : -9223372036854775808≤x)(h2:x<9223372036854775808):IntKind.i64.wrap x=x:=by
 unfold IntKind.wrap;have e1:(2:Int)^IntKind.i64.bits=18446744073709551616:=by rfl
 have e2:(2:Int)^(IntKind.i64.bits-1)=9223372036854775808:=by rfl
 simp only[e1,e2,IntKind.signed,Bool.true_and,decide_eq_true_eq];split<;>omega
@[go_sem] theorem wrap_u64{x:Int}(h1:0≤x)(h2:x<18446744073709551616):IntKind.u64.wrap x=x:=by
 unfold IntKind.wrap;simp only[IntKind.bits,IntKind.signed,Bool.false_and,if_false];simp only[Bool.false_eq_true,if_false];omega
@[go_sem] theorem wrap_u8{x:Int}(h1:0≤x)(h2:x<256):IntKind.u8.wrap x=x:=by
 unfold IntKind.wrap;simp only[IntKind.bits,IntKind.signed,Bool.false_and];simp only[Bool.false_eq_true,if_false];omega
@[go_sem] theorem RR:((0:Nat):Int)=0:=rfl
theorem a_{z:Zx}{c:Code}{K:List KF}(I:Nat→Tm→PT aj→Nat→Prop){m:Tm}{h:PT aj}{n:Nat}(t:Nat)(h0:I t m h n)
  (step:∀ t m h n,(∀ t' m' h' n',t'<t→I t' m' h' n'→iZ z (.loop c) K m' h' n')→I t m h n→iZ z c (.loop c::K) m h n):iZ z (.loop c) K m h n:=by
 have key:∀ k t m h n,t<k→I t m h n→iZ z (.loop c) K m h n:=by
  intro k
  induction k with
  |zero=>intro t m h n ht;omega
  |succ k ih=>
   intro t m h n ht hI;rw[eR];exact step t m h n (fun t' m' h' n' ht' hI'=>ih t' m' h' n' qJ hI') hI
 exact key (t+1) t m h n qJ h0
def aN(k:IntKind)(h:PT aj)(s:Value)(xs:List Int):Prop:=
 (s = .slice none 0 0∧xs=[])∨∃ b off sp cap L ro,s = .slice (some ⟨b,off,sp⟩) xs.length cap∧h.get b=some (.cells (PT.ofList .leaf 0 L) ro)∧(Nat.ble (off+xs.length) L.length||Nat.beq xs.length 0)=true∧(L.drop off).take xs.length=xs.map (.int k)
theorem aN.BL{k:IntKind}{h:PT aj}{s:Value}{xs:List Int}(hs:aN k h s xs):(s = .slice none 0 0∧xs=[])∨(∃ b off sp cap L ro,s = .slice (some ⟨b,off,sp⟩) 0 cap∧xs=[]∧h.get b=some (.cells (PT.ofList .leaf 0 L) ro))∨
  ∃ b off sp cap L ro,s = .slice (some ⟨b,off,sp⟩) xs.length cap∧h.get b=some (.cells (PT.ofList .leaf 0 L) ro)∧off+xs.length≤L.length∧(L.drop off).take xs.length=xs.map (.int k):=by
 rcases hs with hs | ⟨b,off,sp,cap,L,ro,rfl,hb,hB,hT⟩
 ·exact .inl hs
 ·simp only[Bool.or_eq_true] at hB
  rcases hB with hB |hB
  ·exact .inr (.inr ⟨b,off,sp,cap,L,ro,rfl,hb,Nat.le_of_ble_eq_true hB,hT⟩)
  ·have:=Nat.eq_of_beq_eq_true hB;obtain rfl:xs=[]:=List.eq_nil_of_length_eq_zero this;exact .inr (.inl ⟨b,off,sp,cap,L,ro,rfl,rfl,hb⟩)
theorem qg{k:IntKind}{L:List Value}{off:Nat}{xs:List Int}(hT:(L.drop off).take xs.length=xs.map (.int k))(i:Nat)(hi:i<xs.length):L[off+i]? = some (.int k (xs.getD i 0)):=by
 have h2:((L.drop off).take xs.length)[i]? = (xs.map (Value.int k))[i]? := by rw[hT]
 rw[List.getElem?_take,if_pos hi,List.getElem?_drop] at h2;rw[h2,List.getElem?_map,List.getElem?_eq_getElem hi];simp[List.getD,List.getElem?_eq_getElem hi]
theorem aN.len{k:IntKind}{h:PT aj}{s:Value}{xs:List Int}(hs:aN k h s xs):∃ a cap,s = .slice a xs.length cap∧∀ i,i<xs.length→∃ b off sp L ro,a=some ⟨b,off,sp⟩∧h.get b=some (.cells (PT.ofList .leaf 0 L) ro)∧L[off+i]? = some (.int k (xs.getD i 0)):=by
 rcases hs with ⟨rfl,rfl⟩ | ⟨b,off,sp,cap,L,ro,rfl,hb,_,hT⟩
 ·exact⟨none,0,rfl,fun i hi=>by simp at hi⟩
 ·exact⟨_,cap,rfl,fun i hi=>⟨b,off,sp,L,ro,rfl,hb,qg hT i hi⟩⟩
def fC(k:IntKind):List Value→Option (List Int)
 | []=>some []
 | .int k' x::r=>if k'=k then (fC k r).map (x::·) else none
 | _::_=>none
theorem nH{k:IntKind}:∀ {l:List Value} {xs:List Int},fC k l=some xs→l=xs.map (.int k)
 | [],xs,e=>by simp only[fC,Option.some.injEq] at e;subst e;rfl
 |v::r,xs,e=>by
  unfold fC at e;split at e
  ·rename_i h;simp at h
  ·rename_i k' x r' hr;split at e
   ·rename_i hk;subst hk;simp only[List.cons.injEq] at hr;obtain⟨rfl,rfl⟩:=hr;cases hd:fC k' r with
    |none=>rw[hd] at e;simp at e
    |some ys=>rw[hd] at e;simp only[Option.map_some,Option.some.injEq] at e;subst e;rw[nH hd];rfl
   ·simp at e
  ·simp at e
theorem jO{k:IntKind}:∀ (xs:List Int),fC k (xs.map (.int k))=some xs
 | []=>rfl
 |x::xs=>by simp[fC,jO xs]
def eM(k:IntKind)(s:Value):AP (List Int):=match s with
 | .slice none 0 0 => .pure []
 | .slice (some a) n _ => .get a.block fun
  | .cells c _=>match aW c a.off n with
   |some l=>AP.opt "" (fC k l) .pure
   |none => .fail ""
  | _ => .fail ""
 | _ => .fail ""
theorem xJ{k:IntKind}{s:Value}{h:PT aj}{n:Nat}{xs:List Int}{s':HS}(hR:∀ i c ro,h.get i=some (.cells c ro)→∃ L,c = .ofList .leaf 0 L)(e:(eM k s).run 0 (S0 h n) = .ok xs s'):s'=S0 h n∧aN k h s xs:=by
 unfold eM at e;split at e
 ·simp only[AP.run,aO.ok.injEq] at e;exact⟨e.2.symm,.inl ⟨rfl,e.1.symm⟩⟩
 ·rename_i a len cap;simp only[AP.run,show (S0 h n).heap=h from rfl] at e;cases hb:h.get a.block with
  |none=>rw[hb] at e;simp at e
  |some B=>
   rw[hb] at e;simp only[show Nat.blt a.block 0=false from rfl,cond_false] at e;cases B with
   |cells c ro=>
    obtain⟨L,rfl⟩:=hR _ _ _ hb;simp only[dU] at e;cases hc:(Nat.ble (a.off+len) L.length||Nat.beq len 0) with
    |false=>rw[hc] at e;simp[AP.run] at e
    |true=>
     rw[hc] at e;simp only[cond_true,AP.opt] at e;cases hd:fC k ((L.drop a.off).take len) with
     |none=>rw[hd] at e;simp[AP.run] at e
     |some ys=>
      rw[hd] at e;simp only[AP.run,aO.ok.injEq] at e;obtain⟨rfl,rfl⟩:=e;have:=nH hd;have hlen:len=ys.length:=by
       have h1:((L.drop a.off).take len).length=ys.length:=by rw[this];simp
       simp only[Bool.or_eq_true] at hc
       rcases hc with hc |hc
       ·have:=Nat.le_of_ble_eq_true hc;simp at h1;omega
       ·have:=Nat.eq_of_beq_eq_true hc;simp at h1;omega
      subst hlen;exact⟨rfl,.inr ⟨a.block,a.off,a.spot,cap,L,ro,rfl,hb,hc,this⟩⟩
   | _=>simp[AP.run] at e
 ·simp[AP.run] at e
@[go_sem] theorem YW{k:IntKind}:eM k (.slice none 0 0) = .pure []:=rfl
def riB(k:IntKind)(off n:Nat):aj→AP (List Int)
 | .cells c _=>match aW c off n with
  |some l=>AP.opt "" (fC k l) .pure
  |none => .fail ""
 | _ => .fail ""
@[go_sem] theorem sI{k:IntKind}{b off n c:Nat}{sp:Option Nat}:eM k (.slice (some ⟨b,off,sp⟩) n c) = .get b (riB k off n):=rfl
@[go_sem] theorem Ip{k:IntKind}{off n:Nat}{L:List Value}{ro:Bool}:riB k off n (.cells (PT.ofList .leaf 0 L) ro)=cond (Nat.ble (off+n) L.length||Nat.beq n 0) (AP.opt "" (fC k ((L.drop off).take n)) .pure) (.fail ""):=by
 simp only[riB,dU];cases (Nat.ble (off+n) L.length||Nat.beq n 0)<;>rfl
@[go_sem] theorem ad6{α β:Type}{w:String}{a:α}{k:α→AP β}:AP.opt w (some a) k=k a:=rfl
attribute [go_sem] jO
end Go.Am
namespace Go.Am
inductive Plain:Value→Prop
 |bool (b:Bool):Plain (.bool b)
 |int (k:IntKind) (n:Int):Plain (.int k n)
 |string (s:ByteArray):Plain (.string s)
 |gE:Plain (.pointer none)
 |nilslice (n c:Nat):Plain (.slice none n c)
 |jv:Plain (.map none)
 |iz:Plain .nilFunc
 |eN:Plain .nilIface
 |agg (l:List Value) (h:∀ v∈l,Plain v):Plain (.agg ⟨l⟩)
 |tuple (l:List Value) (h:∀ v∈l,Plain v):Plain (.tuple ⟨l⟩)
theorem Plain.ren{I:Nat→Nat→Prop}{Old:Value→Prop}{v:Value}(h:Plain v):jc I Old v v:=by
 induction h with
 |bool b=>exact .bool b
 |int k n=>exact .int k n
 |string s=>exact .string s
 |gE=>exact .gE
 |nilslice n c=>exact .nilslice n c
 |jv=>exact .jv
 |iz=>exact .iz
 |eN=>exact .eN
 |agg l _ ih=>exact .agg l l (cC.refl l ih)
 |tuple l _ ih=>exact .tuple l l (cC.refl l ih)
def Rows(h:PT aj):Prop:=∀ i c ro,h.get i=some (.cells c ro)→∃ L,c = .ofList .leaf 0 L
theorem ct{P:Program}{O:Over}(hO:cU P O)(qw:P.follows .mixedOrders=true){f:FuncId}{spec:List Value→Option (AP Value)}
  (H:∀ args m,spec args=some m→∃ Pre:PT aj→Value→Prop,(∀ h n v s',Rows h→m.run 0 (S0 h n) = .ok v s'→s'=S0 h n∧Plain v∧Pre h v)∧
   ∀ h N v,(∀ i B,h.get i=some B→i<N)→Pre h v→cE P O f args h N fun v2 h2 n2=>v2=v∧∀ i,i<N→h2.get i=h.get i):bG P f spec:=by
 refine xE hO qw ?_;intro args m hm h n N Old eS v h1 n1 hr hold hid hn;obtain⟨Pre,hq,hB⟩:=H args m hm;obtain⟨hs,hp,hpre⟩:=hq h n v _ hold.rows hr;have e1:h1=h:=congrArg HS.heap hs;have e2:n1=n:=congrArg HS.next hs;subst e1 e2;have hlt:∀ i B,h1.get i=some B→i<N:=fun i B hi=>(hid i (hold.id i B hi)).1;obtain⟨k,v2,h2,n2,e,rfl,hk⟩:=hB h1 N v hlt hpre;exact⟨k,v2,h2,n2,e,fun i=>i,fun i h1 h2=>by omega,fun i j _ _ _ _ h=>h,hp.ren,fun i B hi => .inl ⟨hi,by rw[hk i (hlt i B hi)];exact hi⟩⟩
theorem cE.mono{P:Program}{O:Over}{f:FuncId}{args:List Value}{h:PT aj}{n:Nat}{R R':Value→PT aj→Nat→Prop}(e:cE P O f args h n R)(hR:∀ v h n,R v h n→R' v h n):cE P O f args h n R':=by
 obtain⟨k,v,h',n',e,r⟩:=e;exact⟨k,v,h',n',e,hR _ _ _ r⟩
def Kept(h0 h:PT aj):Prop:=∀ i B,h0.get i=some B→h.get i=some B
theorem Kept.refl(h:PT aj):Kept h h:=fun _ _ e=>e
theorem Kept.set{h0 h:PT aj}{N j:Nat}{b:Option aj}(hN:∀ i B,h0.get i=some B→i<N)(hj:N≤j)(hk:Kept h0 h):Kept h0 (h.set j b):=by
 intro i B e;have:=hN i B e;rw[PT.cB _ _ qJ];exact hk i B e
theorem aN.keep{k:IntKind}{h0 h:PT aj}{s:Value}{xs:List Int}(hs:aN k h0 s xs)(hk:Kept h0 h):aN k h s xs:=by
 rcases hs with hs | ⟨b,off,sp,cap,L,ro,e,hb,hB,hT⟩
 ·exact .inl hs
 ·exact .inr ⟨b,off,sp,cap,L,ro,e,hk _ _ hb,hB,hT⟩
theorem gI{k:IntKind}{h0 h:PT aj}{s:Value}{xs:List Int}(hs:aN k h0 s xs){z:Zx}{f:List Int→AP aG}{d:Option Nat}{ops r:List Oper}{K:List KF}{m:Tm}{n:Nat}(hk:Kept h0 h):
  jZ z ((eM k s).bind f) d ops r K m h n↔jZ z (f xs) d ops r K m h n:=by
 rcases(hs.keep hk) with ⟨rfl,rfl⟩ | ⟨b,off,sp,cap,L,ro,rfl,hb,hB,hT⟩
 ·rfl
 ·rw[sI,NR,BD,hb,xB,Ip,hB,hT,jO];rfl
@[go_sem] theorem abN{α β γ:Type}(p:AP α)(f:α→AP β)(g:β→AP γ):(p.bind f).bind g=p.bind fun a=>(f a).bind g:=by
 induction p with
 |pure a=>rfl
 |fail w=>rfl
 |get id k ih=>simp only[AP.bind];congr 1;funext b;exact ih b
 |set id b k ih=>simp only[AP.bind,ih]
 |kill id k ih=>simp only[AP.bind,ih]
 |new b k ih=>simp only[AP.bind];congr 1;funext i;exact ih i
theorem jf{k:IntKind}{s:Value}{f:List Int→AP Value}{h:PT aj}{n:Nat}{v:Value}{s':HS}(hR:Rows h)(e:((eM k s).bind f).run 0 (S0 h n) = .ok v s'):∃ xs,aN k h s xs∧(f xs).run 0 (S0 h n) = .ok v s':=by
 rw[run_bind] at e;obtain⟨xs,s₁,e₁,e₂⟩:=bE e;obtain⟨rfl,hi⟩:=xJ hR e₁;exact⟨xs,hi,e₂⟩
theorem run_pure{v u:Value}{h:PT aj}{n:Nat}{s':HS}(e:(AP.pure u).run 0 (S0 h n) = .ok v s'):s'=S0 h n∧v=u:=by
 simp only[AP.run,aO.ok.injEq] at e;exact⟨e.2.symm,e.1.symm⟩
theorem ec{b:Bool}{p:AP Value}{w:String}{h:PT aj}{n:Nat}{v:Value}{s':HS}(e:(cond b p (.fail w)).run 0 (S0 h n) = .ok v s'):b=true∧p.run 0 (S0 h n) = .ok v s':=by
 cases b with
 |false=>simp[AP.run] at e
 |true=>exact⟨rfl,e⟩
end Go.Am
namespace Go.Am
open Go.RowKit
def AP.look{α:Type}(h:PT aj):AP α→Option α
 | .pure a=>some a
 | .get id k=>match h.get id with
  |some b=>(k b).look h
  |none=>none
 | _=>none
inductive Reads {α:Type}:AP α→Prop
 |pure (a:α):Reads (.pure a)
 |fail (w:String):Reads (.fail w)
 |get (id:Nat) (k:aj→AP α) (h:∀ b,Reads (k b)):Reads (.get id k)
theorem Reads.bind{α β:Type}{p:AP α}{f:α→AP β}(hp:Reads p)(hf:∀ a,Reads (f a)):Reads (p.bind f):=by
 induction hp with
 |pure a=>exact hf a
 |fail w=>exact .fail w
 |get id k _ ih=>exact .get id _ ih
theorem Reads.cond{α:Type}{b:Bool}{p q:AP α}(hp:Reads p)(hq:Reads q):Reads (cond b p q):=by cases b<;>assumption
theorem Reads.opt{α β:Type}{w:String}{o:Option α}{f:α→AP β}(hf:∀ a,Reads (f a)):Reads (AP.opt w o f):=by cases o<;>first|exact .fail _ |exact hf _
theorem Reads.run{α:Type}{p:AP α}(hp:Reads p){h:PT aj}{n:Nat}{a:α}{s':HS}(e:p.run 0 (S0 h n) = .ok a s'):s'=S0 h n∧p.look h=some a:=by
 induction hp with
 |pure b=>simp only[AP.run,aO.ok.injEq] at e;exact⟨e.2.symm,by rw[AP.look,e.1]⟩
 |fail w=>simp[AP.run] at e
 |get id k _ ih=>
  simp only[AP.run,show (S0 h n).heap=h from rfl] at e;cases hb:h.get id with
  |none=>rw[hb] at e;simp at e
  |some b=>
   rw[hb] at e;simp only[AP.look,hb];exact ih b e
theorem gT{α:Type}{h h':PT aj}(hk:Kept h h'):∀ {p:AP α} {a:α},p.look h=some a→p.look h'=some a
 | .pure b,a,e=>e
 | .fail w,a,e=>by simp[AP.look] at e
 | .set ..,a,e=>by simp[AP.look] at e
 | .kill ..,a,e=>by simp[AP.look] at e
 | .new ..,a,e=>by simp[AP.look] at e
 | .get id k,a,e=>by
  simp only[AP.look] at e ⊢;cases hb:h.get id with
  |none=>rw[hb] at e;simp at e
  |some b=>rw[hb] at e;rw[hk id b hb];exact gT hk e
theorem mG{α β:Type}{h:PT aj}:∀ (p:AP α) (f:α→AP β),(p.bind f).look h=(p.look h).bind fun a=>(f a).look h
 | .pure b,f=>rfl
 | .fail w,f=>rfl
 | .set ..,f=>rfl
 | .kill ..,f=>rfl
 | .new ..,f=>rfl
 | .get id k,f=>by
  simp only[AP.look,AP.bind];cases h.get id with
  |none=>rfl
  |some b=>exact mG (k b) f
theorem mH{α:Type}{h:PT aj}{n:Nat}:∀ {p:AP α} {a:α},p.look h=some a→p.run 0 (S0 h n) = .ok a (S0 h n)
 | .pure b,a,e=>by simp only[AP.look,Option.some.injEq] at e;subst e;rfl
 | .fail w,a,e=>by simp[AP.look] at e
 | .set ..,a,e=>by simp[AP.look] at e
 | .kill ..,a,e=>by simp[AP.look] at e
 | .new ..,a,e=>by simp[AP.look] at e
 | .get id k,a,e=>by
  simp only[AP.look] at e;simp only[AP.run,show (S0 h n).heap=h from rfl];cases hb:h.get id with
  |none=>rw[hb] at e;simp at e
  |some b=>rw[hb] at e;exact mH e
theorem cw{α:Type}{p:AP α}{a:α}{h0 h:PT aj}(hs:p.look h0=some a){z:Zx}{f:α→AP aG}{d:Option Nat}{ops r:List Oper}{K:List KF}{m:Tm}{n:Nat}(hk:Kept h0 h):
  jZ z (p.bind f) d ops r K m h n↔jZ z (f a) d ops r K m h n:=by
 unfold jZ;simp only[run_bind,mH (n:=n) (gT hk hs),aS]
theorem oW{k:IntKind}{h:PT aj}{s:Value}{xs:List Int}(e:(eM k s).look h=some xs)(hR:Rows h):aN k h s xs:=(xJ (n:=0) hR (mH e)).2
theorem aN.look{k:IntKind}{h:PT aj}{s:Value}{xs:List Int}(hs:aN k h s xs):(eM k s).look h=some xs:=by
 rcases hs with ⟨rfl,rfl⟩ | ⟨b,off,sp,cap,L,ro,rfl,hb,hB,hT⟩
 ·rfl
 ·rw[sI];simp only[AP.look,hb,Ip,hB,hT,jO];rfl
theorem nI{k:IntKind}{s:Value}:Reads (eM k s):=by
 unfold eM;split
 ·exact .pure _
 ·refine .get _ _ fun b=>?_;split
  ·split
   ·exact .opt fun _ => .pure _
   ·exact .fail _
  ·exact .fail _
 ·exact .fail _
theorem bM{P:Program}{O:Over}(hO:cU P O)(qw:P.follows .mixedOrders=true){f:FuncId}{spec:List Value→Option (AP Value)}(hR:∀ args m,spec args=some m→Reads m)
  (hP:∀ args m h v,spec args=some m→m.look h=some v→Plain v)
  (H:∀ args m h N v,spec args=some m→Rows h→(∀ i B,h.get i=some B→i<N)→m.look h=some v→cE P O f args h N fun v2 h2 n2=>v2=v∧∀ i,i<N→h2.get i=h.get i):bG P f spec:=by
 refine ct hO qw ?_;intro args m hm;refine⟨fun h v=>Rows h∧m.look h=some v,fun h n v s' ad7 e=>?_,fun h N v hlt hv=>H args m h N v hm hv.1 hlt hv.2⟩;obtain⟨h1,h2⟩:=(hR args m hm).run e;exact⟨h1,hP args m h v hm h2,ad7,h2⟩
def sJ:List Value→Option (AP Value)
 | []=>some (.pure (.bool true))
 | _=>none
theorem Iq{P:Program}{O:Over}(hO:cU P O)(qw:P.follows .mixedOrders=true){fuel:Nat}{f:FuncId}(hl:vR P O fuel f=true):bG P f sJ:=by
 intro args m hm Γ W w h n lim rd wr args' v s' ha hS hr hfree;unfold sJ at hm;split at hm
 ·simp only[Option.some.injEq] at hm;subst hm;cases ha;simp only[AP.run,aO.ok.injEq] at hr;obtain⟨rfl,rfl⟩:=hr;unfold vR at hl;cases hc:fT P O (mQ P O fuel) 0 f [] rV with
  |fail q=>rw[hc] at hl;simp[isTrue] at hl
  |ok v s'=>
   rw[hc] at hl;have hv:v = .bool true:=by
    unfold isTrue at hl;split at hl
    ·rename_i he;simp only[aO.ok.injEq] at he;exact he.1
    ·simp at hl
   subst hv;have hS0:bK ⟨fun _=>none,fun _=>none⟩ w .leaf w:=
    ⟨.refl _ _,fun _ _=>rfl,fun i B hB=>by simp at hB,fun i j B B' b s b' s' _ hB=>by simp at hB,fun i b s hb=>by simp at hb,fun b n hb=>by simp at hb,⟨0,fun _ _=>rfl⟩,fun i c ro e=>by simp at e⟩
   have:=qY hO (sH hO qw fuel).1 (tU fuel) hc (Nat.le_refl _) (fun id _=>by simp[rV]) hS0 (fun id b hb=>hb) .nil (fun _ _ _=>rfl) none;refine CallsIn.mono (show CallsIn Fence.wide 0 P f ⟨[]⟩ w _ from this) ?_;rintro en w' ⟨LU,v',H',rfl,hex,Kr⟩;cases Kr;have hb:=hex.rel.below;have hsame:∀ i,i<w.heap.size→w'.heap[i]? = w.heap[i]? := hb.block;refine⟨Γ,.bool true,rfl,.refl _,⟨?_,fun a ha=>(hex.rel.fz a (Nat.lt_of_lt_of_le ha hS.below.size)).trans (hS.fz a ha),?_,hS.ng,?_,?_,hS.fin,hS.rows⟩,fun _ _=>rfl,.bool _⟩
   ·exact⟨hb.os.trans hS.below.os,hb.tape.trans hS.below.tape,hb.output.trans hS.below.output,Nat.le_trans hS.below.size hb.size,fun i hi=>(hsame i (Nat.lt_of_lt_of_le hi hS.below.size)).trans (hS.below.block i hi)⟩
   ·intro i B hi;obtain⟨b,s,e,r,hw⟩:=hS.live i B hi;exact⟨b,s,e,r.world (hsame b (hS.dom i b s e)),hw⟩
   ·intro i b s e;exact Nat.lt_of_lt_of_le (hS.dom i b s e) hb.size
   ·intro b n e;obtain⟨c,el,fz,h1,h2⟩:=hS.jo b n e;exact⟨c,el,fz,(hsame b (dZ h1)).trans h1,h2⟩
 ·simp at hm
theorem Ol{z:Zx}{f:FuncId}{args:List Value}{d:Option Nat}{ops r:List Oper}{K:List KF}{m:Tm}{h:PT aj}{n:Nat}{R:Value→PT aj→Nat→Prop}(hm:m.n=z.N)(hO:z.O f args=none)
  (e:cE z.P z.O f args h n R) (hk:∀ v h' n',R v h' n'→jZ z (.pure (.value v)) d ops r K m h' n'):jZ z (.pure (.enter f args)) d ops r K m h n:=by
 obtain⟨k,v,h',n',e,hR⟩:=e;obtain⟨_,k2,m',h2,n2,e2,q⟩:=hk v h' n' hR;refine⟨hm,max k k2,m',h2,n2,?_,q⟩;simp only[AP.run,aS,fU,fT,hO] at e2 ⊢;rw[mC (iu (Nat.le_max_left k k2)) e,aS];exact cm (fun _ _ q=>q) (fun a s _ b s' q=>xy (iu (Nat.le_max_right k k2)) r q) e2
theorem DW{z:Zx}{f:FuncId}{args:List Value}{d:Option Nat}{ops r:List Oper}{K:List KF}{m:Tm}{h:PT aj}{n:Nat}{R:Value→PT aj→Nat→Prop}(hm:m.n=z.N)(hO:z.O f args=none)
  (e:cE z.P z.O f args h n R) (hk:∀ v h' n',R v h' n'→jZ z (.pure (.value v)) d ops r K m h' n'):V6 z none f args d ops r K m h n:=Ol hm hO e hk
end Go.Am
