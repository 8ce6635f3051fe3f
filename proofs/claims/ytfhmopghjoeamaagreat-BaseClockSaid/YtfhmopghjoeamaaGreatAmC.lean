/-
  The abstract machine: the trie's laws; when an abstract value and heap stand for the model's; what reading, writing and laying a block keep.
-/
import Derived.Test.YtfhmopghjoeamaaGreatAmB
import Derived.Below
import Derived.Laws.Cells
import Derived.Laws.Entries
set_option linter.unusedSimpArgs false
set_option linter.unusedVariables false
namespace Go.Am
open Go.RowKit
def ofBits:List Bool→Nat
 | []=>0
 |b::k=>2*ofBits k+b.toNat
theorem jh:∀ f n,n≤f→ofBits (bits f n)=n
 |0,n,h=>by
  obtain rfl:n=0:=by omega
  rfl
 |f+1,n,h=>by
  unfold bits
  cases hb:Nat.beq n 0 with
  |true=>have:=Nat.eq_of_beq_eq_true hb;simp[ofBits,this]
  |false=>
   have hn:n≠0:=fun e=>by rw[e] at hb;exact Bool.noConfusion hb
   have hd:Nat.div n 2=n/2:=rfl
   have hm:Nat.mod n 2=n%2:=rfl
   simp only[cond_false,ofBits,hd,hm]
   rw[jh f (n/2) (by omega)]
   cases hq:Nat.beq (n%2) 1 with
   |true=>have:=Nat.eq_of_beq_eq_true hq;simp;omega
   |false=>
    have:n%2≠1:=fun e=>by rw[e] at hq;exact Bool.noConfusion hq
    simp;omega
theorem rC {n m:Nat} (h:bits n n=bits m m):n=m:=by
 rw[←jh n n (Nat.le_refl _),←jh m m (Nat.le_refl _),h]
section trie
variable {α:Type}
@[simp] theorem PT.wC (k:List Bool):PT.fR k (.leaf:PT α)=none:=by cases k<;>rfl
theorem PT.cR:∀ (k:List Bool) (v:Option α) (t:PT α),(t.bY k v).fR k=v
 | [],v,.leaf=>rfl
 | [],v,.node _ _ _=>rfl
 |true::k,v,.leaf=>by simp[PT.bY,PT.fR,PT.cR k]
 |false::k,v,.leaf=>by simp[PT.bY,PT.fR,PT.cR k]
 |true::k,v,.node _ _ _=>by simp[PT.bY,PT.fR,PT.cR k]
 |false::k,v,.node _ _ _=>by simp[PT.bY,PT.fR,PT.cR k]
theorem PT.dX:∀ (k k':List Bool) (v:Option α) (t:PT α),k≠k'→(t.bY k v).fR k'=t.fR k'
 | [],[],_,_,h=>absurd rfl h
 | [],b::k',v,.leaf,_=>by cases b<;>simp[PT.bY,PT.fR]
 | [],b::k',v,.node _ _ _,_=>by cases b<;>simp[PT.bY,PT.fR]
 |b::k,[],v,.leaf,_=>by cases b<;>simp[PT.bY,PT.fR]
 |b::k,[],v,.node _ _ _,_=>by cases b<;>simp[PT.bY,PT.fR]
 |true::k,true::k',v,.leaf,h=>by simpa [PT.bY,PT.fR] using PT.dX k k' v .leaf (fun e=>h (by rw[e]))
 |false::k,false::k',v,.leaf,h=>by simpa [PT.bY,PT.fR] using PT.dX k k' v .leaf (fun e=>h (by rw[e]))
 |true::k,false::k',v,.leaf,_=>by simp[PT.bY,PT.fR]
 |false::k,true::k',v,.leaf,_=>by simp[PT.bY,PT.fR]
 |true::k,true::k',v,.node _ _ r,h=>by simpa [PT.bY,PT.fR] using PT.dX k k' v r (fun e=>h (by rw[e]))
 |false::k,false::k',v,.node l _ _,h=>by simpa [PT.bY,PT.fR] using PT.dX k k' v l (fun e=>h (by rw[e]))
 |true::k,false::k',v,.node _ _ _,_=>by simp[PT.bY,PT.fR]
 |false::k,true::k',v,.node _ _ _,_=>by simp[PT.bY,PT.fR]
theorem PT.dY (t:PT α) (n:Nat) (v:Option α):(t.set n v).get n=v:=PT.cR _ _ _
theorem PT.bE (t:PT α) {n m:Nat} (v:Option α) (h:n≠m):(t.set n v).get m=t.get m:=
 PT.dX _ _ _ _ fun e=>h (rC e)
theorem PT.aR (t:PT α) (n m:Nat) (v:Option α):(t.set n v).get m=if m=n then v else t.get m:=by
 by_cases h:m=n
 ·subst h;simp[PT.dY]
 ·simp[h,PT.bE t v (Ne.symm h)]
@[simp] theorem PT.HP (n:Nat):(PT.leaf:PT α).get n=none:=PT.wC _
theorem PT.nJ:∀ (l:List α) (t:PT α) (off i:Nat),(t.ofList off l).get i=if off≤i∧i<off+l.length then l[i-off]? else t.get i
 | [],t,off,i=>by
  have: ¬ (off≤i∧i<off+0):=by omega
  simp only[PT.ofList,List.length_nil,this,if_false]
 |v::vs,t,off,i=>by
  rw[PT.ofList,PT.nJ vs,PT.aR]
  by_cases h:i=off
  ·subst h
   have h1: ¬ (i+1≤i∧i<i+1+vs.length):=by omega
   have h2:i≤i∧i<i+(v::vs).length:=by simp
   rw[if_neg h1,if_pos rfl,if_pos h2];simp
  ·by_cases h1:off+1≤i∧i<off+1+vs.length
   ·have h2:off≤i∧i<off+(v::vs).length:=by simp;omega
    rw[if_pos h1,if_pos h2,show i-off=(i-(off+1))+1 by omega];simp
   ·have h2: ¬ (off≤i∧i<off+(v::vs).length):=by simp;omega
    rw[if_neg h1,if_neg h2,if_neg h]
theorem PT.aF (l:List α) (i:Nat):((PT.leaf:PT α).ofList 0 l).get i=l[i]? := by
 rw[PT.nJ]
 by_cases h:i<l.length
 ·simp[h]
 ·simp[h]
end trie
theorem PT.cS {α:Type}:∀ (k:List Bool) (u v:Option α) (t:PT α),(t.bY k u).bY k v=t.bY k v
 | [],u,v,.leaf=>rfl
 | [],u,v,.node _ _ _=>rfl
 |true::k,u,v,.leaf=>by simp[PT.bY,PT.cS k]
 |false::k,u,v,.leaf=>by simp[PT.bY,PT.cS k]
 |true::k,u,v,.node _ _ _=>by simp[PT.bY,PT.cS k]
 |false::k,u,v,.node _ _ _=>by simp[PT.bY,PT.cS k]
theorem PT.gU {α:Type}:∀ (k k':List Bool) (u v:Option α) (t:PT α),k≠k'→(t.bY k u).bY k' v=(t.bY k' v).bY k u
 | [],[],_,_,_,h=>absurd rfl h
 | [],b::k',u,v,.leaf,_=>by cases b<;>simp[PT.bY]
 | [],b::k',u,v,.node _ _ _,_=>by cases b<;>simp[PT.bY]
 |b::k,[],u,v,.leaf,_=>by cases b<;>simp[PT.bY]
 |b::k,[],u,v,.node _ _ _,_=>by cases b<;>simp[PT.bY]
 |true::k,true::k',u,v,.leaf,h=>by simp[PT.bY,PT.gU k k' u v .leaf (fun e=>h (by rw[e]))]
 |false::k,false::k',u,v,.leaf,h=>by simp[PT.bY,PT.gU k k' u v .leaf (fun e=>h (by rw[e]))]
 |true::k,true::k',u,v,.node l x r,h=>by simp[PT.bY,PT.gU k k' u v r (fun e=>h (by rw[e]))]
 |false::k,false::k',u,v,.node l x r,h=>by simp[PT.bY,PT.gU k k' u v l (fun e=>h (by rw[e]))]
 |true::k,false::k',u,v,.leaf,_=>by simp[PT.bY]
 |false::k,true::k',u,v,.leaf,_=>by simp[PT.bY]
 |true::k,false::k',u,v,.node _ _ _,_=>by simp[PT.bY]
 |false::k,true::k',u,v,.node _ _ _,_=>by simp[PT.bY]
theorem PT.set_set {α:Type} (t:PT α) (i:Nat) (u v:Option α):(t.set i u).set i v=t.set i v:=PT.cS _ _ _ _
theorem PT.set_comm {α:Type} (t:PT α) {i j:Nat} (u v:Option α) (h:i≠j):(t.set i u).set j v=(t.set j v).set i u:=PT.gU _ _ _ _ _ fun e=>h (rC e)
theorem PT.jY {α:Type}:∀ (L:List α) (t:PT α) (off i:Nat) (v:Option α),i<off→(PT.ofList t off L).set i v=PT.ofList (t.set i v) off L
 | [],t,off,i,v,h=>rfl
 |x::L,t,off,i,v,h=>by
  rw[PT.ofList,PT.jY L _ _ _ _ (by omega),PT.ofList,PT.set_comm _ _ _ (by omega)]
theorem PT.nK {α:Type}:∀ (L:List α) (t:PT α) (off i:Nat) (v:α),i<L.length→(PT.ofList t off L).set (off+i) (some v)=PT.ofList t off (L.set i v)
 | [],t,off,i,v,h=>by simp at h
 |x::L,t,off,0,v,h=>by
  rw[PT.ofList,PT.jY L _ _ _ _ (by omega),Nat.add_zero,PT.set_set];rfl
 |x::L,t,off,i+1,v,h=>by
  rw[PT.ofList,show off+(i+1)=(off+1)+i by omega,PT.nK L _ _ _ _ (by simpa using h)];rfl
theorem jH (L:List Value) (i:Nat) (v:Value) (h:i<L.length):(PT.ofList .leaf 0 L).set i (some v)=PT.ofList .leaf 0 (L.set i v):=by
 have:=PT.nK L .leaf 0 i v h
 rwa [Nat.zero_add] at this
structure aT where
 blk:Nat→Option (Nat×Nat)
 eu:Nat→Option Nat
structure aT.le (Γ aH:aT):Prop where
 blk:∀ i x,Γ.blk i=some x→aH.blk i=some x
 eu:∀ b n,Γ.eu b=some n→aH.eu b=some n
theorem aT.le.refl (Γ:aT):Γ.le Γ:=⟨fun _ _ h=>h,fun _ _ h=>h⟩
theorem aT.le.trans {a b c:aT} (h:a.le b) (k:b.le c):a.le c:=⟨fun i x e=>k.blk i x (h.blk i x e),fun i x e=>k.eu i x (h.eu i x e)⟩
structure aT.addr (Γ:aT) (a a':Addr):Prop where
 spot:a.spot=none
 spot':a'.spot=none
 at_:∃ s,Γ.blk a.block=some (a'.block,s)∧a'.off=s+a.off
theorem aT.addr.mono {Γ aH:aT} (h:Γ.le aH) {a a':Addr} (k:Γ.addr a a'):aH.addr a a':=
 ⟨k.spot,k.spot',let ⟨s,e,o⟩:=k.at_;⟨s,h.blk _ _ e,o⟩⟩
def aT.cap (Γ:aT) (a':Addr) (n c c':Nat):Prop:=
 if az≤c then n≤c'∧∃ N,Γ.eu a'.block=some N∧a'.off+c'*(c-az)≤N else c'=c
theorem aT.cap.mono {Γ aH:aT} (h:Γ.le aH) {a':Addr} {n c c':Nat} (k:Γ.cap a' n c c'):aH.cap a' n c c':=by
 unfold aT.cap at*
 split
 ·rename_i hc;rw[if_pos hc] at k;exact⟨k.1,let ⟨N,e,o⟩:=k.2;⟨N,h.eu _ _ e,o⟩⟩
 ·rename_i hc;rw[if_neg hc] at k;exact k
def aT.addr' (Γ:aT) (n c:Nat) (a a':Addr):Prop:=
 Γ.addr a a'∨(n=0∧az≤c∧a'.spot=none∧∃ s,Γ.blk a.block=some (a'.block,s))∨(n=0∧c=0)
theorem aT.addr'.mono {Γ aH:aT} (h:Γ.le aH) {n c:Nat} {a a':Addr} (k:Γ.addr' n c a a'):aH.addr' n c a a':=
 k.imp (·.mono h) (·.imp (fun ⟨h0,h1,h2,s,h3⟩=>⟨h0,h1,h2,s,h.blk _ _ h3⟩) id)
theorem aT.addr'.spot' {Γ:aT} {n c:Nat} {a a':Addr} (k:Γ.addr' n c a a') (hc:0<c):a'.spot=none:=by
 rcases k with k |k |k
 ·exact k.spot'
 ·exact k.2.2.1
 ·exact absurd k.2 (by omega)
theorem aT.addr'.block {Γ:aT} {n c:Nat} {a a':Addr} (k:Γ.addr' n c a a') (hc:0<c):∃ s,Γ.blk a.block=some (a'.block,s):=by
 rcases k with k |k |k
 ·obtain⟨s,e,_⟩:=k.at_;exact⟨s,e⟩
 ·exact k.2.2.2
 ·exact absurd k.2 (by omega)
theorem aT.addr'.exact {Γ:aT} {n c:Nat} {a a':Addr} (k:Γ.addr' n c a a') (h:0<n∨(¬az≤c∧0<c)):Γ.addr a a':=by
 rcases k with k |k |k
 ·exact k
 ·rcases h with h |h
  ·exact absurd k.1 (by omega)
  ·exact absurd k.2.1 h.1
 ·rcases h with h |h
  ·exact absurd k.1 (by omega)
  ·exact absurd k.2 (by omega)
inductive nL (Γ:aT):Fn→Fn→Prop
 |plain (fn:Fn) (h:∀ l,fn ≠ .yield l):nL Γ fn fn
 |yield (l l':Nat) (h:Γ.blk l=some (l',0)):nL Γ (.yield l) (.yield l')
theorem nL.mono {Γ aH:aT} (h:Γ.le aH) {f f':Fn} (k:nL Γ f f'):nL aH f f':=by
 cases k with
 |plain _ hp=>exact .plain _ hp
 |yield l l' hl=>exact .yield l l' (h.blk _ _ hl)
mutual
inductive ay (Γ:aT):Value→Value→Prop
 |bool (b:Bool):ay Γ (.bool b) (.bool b)
 |int (k:IntKind) (n:Int):ay Γ (.int k n) (.int k n)
 |float (k:FloatKind) (n:Nat):ay Γ (.float k n) (.float k n)
 |complex (k:FloatKind) (n m:Nat):ay Γ (.complex k n m) (.complex k n m)
 |string (s:ByteArray):ay Γ (.string s) (.string s)
 |ez:ay Γ (.pointer none) (.pointer none)
 |ptr (a a':Addr) (h:Γ.addr a a'):ay Γ (.pointer (some a)) (.pointer (some a'))
 |nilslice (n c:Nat):ay Γ (.slice none n c) (.slice none n c)
 |slice (a a':Addr) (n c c':Nat) (h:Γ.addr' n c a a') (hc:Γ.cap a' n c c'):ay Γ (.slice (some a) n c) (.slice (some a') n c')
 |eA:ay Γ (.map none) (.map none)
 |map (r r':Nat) (h:Γ.blk r=some (r',0)):ay Γ (.map (some r)) (.map (some r'))
 |kJ:ay Γ (.chan none) (.chan none)
 |func (fn fn':Fn) (f f' c c':List Value) (hf:aB Γ f f') (hc:aB Γ c c') (hp:nL Γ fn fn'):ay Γ (.func fn ⟨f⟩ ⟨c⟩) (.func fn' ⟨f'⟩ ⟨c'⟩)
 |dG:ay Γ .nilFunc .nilFunc
 |iface (t:TypeId) (v v':Value) (h:ay Γ v v'):ay Γ (.iface t v) (.iface t v')
 |b8:ay Γ .nilIface .nilIface
 |agg (l l':List Value) (h:aB Γ l l'):ay Γ (.agg ⟨l⟩) (.agg ⟨l'⟩)
 |tuple (l l':List Value) (h:aB Γ l l'):ay Γ (.tuple ⟨l⟩) (.tuple ⟨l'⟩)
inductive aB (Γ:aT):List Value→List Value→Prop
 |nil:aB Γ [] []
 |cons (v v':Value) (l l':List Value) (h:ay Γ v v') (t:aB Γ l l'):aB Γ (v::l) (v'::l')
end
mutual
theorem ay.mono {Γ aH:aT} (h:Γ.le aH):∀ {v v':Value},ay Γ v v'→ay aH v v'
 | _,_,.bool b => .bool b
 | _,_,.int k n => .int k n
 | _,_,.float k n => .float k n
 | _,_,.complex k n m => .complex k n m
 | _,_,.string s => .string s
 | _,_,.ez => .ez
 | _,_,.ptr a a' e => .ptr a a' (e.mono h)
 | _,_,.nilslice n c => .nilslice n c
 | _,_,.slice a a' n c c' e k => .slice a a' n c c' (e.mono h) (k.mono h)
 | _,_,.eA => .eA
 | _,_,.map r r' e => .map r r' (h.blk _ _ e)
 | _,_,.kJ => .kJ
 | _,_,.func fn fn' f f' c c' e k hp => .func fn fn' f f' c c' (aB.mono h e) (aB.mono h k) (hp.mono h)
 | _,_,.dG => .dG
 | _,_,.iface t v v' e => .iface t v v' (ay.mono h e)
 | _,_,.b8 => .b8
 | _,_,.agg l l' e => .agg l l' (aB.mono h e)
 | _,_,.tuple l l' e => .tuple l l' (aB.mono h e)
theorem aB.mono {Γ aH:aT} (h:Γ.le aH):∀ {l l':List Value},aB Γ l l'→aB aH l l'
 | _,_,.nil => .nil
 | _,_,.cons v v' l l' e k => .cons v v' l l' (ay.mono h e) (aB.mono h k)
end
theorem aB.length {Γ:aT}:∀ {l l':List Value},aB Γ l l'→l'.length=l.length
 | _,_,.nil=>rfl
 | _,_,.cons _ _ _ _ _ t=>by simp[aB.length t]
theorem aB.get {Γ:aT}:∀ {l l':List Value} (_:aB Γ l l') {i:Nat} {v:Value},l[i]? = some v→∃ v',l'[i]? = some v'∧ay Γ v v'
 | _,_,.nil,i,v,e=>by simp at e
 | _,_,.cons _ v' _ _ h t,0,v,e=>by simp at e;subst e;exact⟨v',rfl,h⟩
 | _,_,.cons _ _ _ _ h t,i+1,v,e=>by simp at e;simpa using aB.get t e
theorem aB.append {Γ:aT}:∀ {l l' m m':List Value},aB Γ l l'→aB Γ m m'→aB Γ (l++m) (l'++m')
 | _,_,_,_,.nil,k=>k
 | _,_,_,_,.cons v v' l l' h t,k => .cons v v' _ _ h (aB.append t k)
theorem aB.take {Γ:aT}:∀ {l l':List Value} (n:Nat),aB Γ l l'→aB Γ (l.take n) (l'.take n)
 | _,_,0,_=>by simpa using .nil
 | _,_,n+1,.nil=>by simpa using .nil
 | _,_,n+1,.cons v v' l l' h t=>by simpa using .cons v v' _ _ h (aB.take n t)
theorem aB.drop {Γ:aT}:∀ {l l':List Value} (n:Nat),aB Γ l l'→aB Γ (l.drop n) (l'.drop n)
 | _,_,0,h=>by simpa using h
 | _,_,n+1,.nil=>by simpa using .nil
 | _,_,n+1,.cons v v' l l' h t=>by simpa using aB.drop n t
theorem aB.map {Γ:aT} {α:Type} {f f':α→Value}:∀ (l:List α),(∀ x∈l,ay Γ (f x) (f' x))→aB Γ (l.map f) (l.map f')
 | [],_ => .nil
 |x::l,h => .cons _ _ _ _ (h x (by simp)) (aB.map l fun y hy=>h y (by simp[hy]))
theorem aB.qo {Γ:aT}:∀ (l:List Value),(∀ v∈l,ay Γ v v)→aB Γ l l
 | [],_ => .nil
 |v::l,h => .cons _ _ _ _ (h v (by simp)) (aB.qo l fun y hy=>h y (by simp[hy]))
theorem rD {Γ:aT}:∀ (n:Nat) (v:Value),flat n v=true→ay Γ v v:=by
 intro n
 induction n with
 |zero=>
  intro v h
  unfold flat at h
  split at h<;>first
   | (constructor;done)
   | (exact .func _ _ _ _ _ _ .nil .nil (.plain _ (fun _ e=>by cases e)))
   | (rename_i e;exact absurd e (by omega))
   | (exact absurd h (by decide))
 |succ n ih=>
  intro v h
  unfold flat at h
  split at h<;>first
   | (constructor;done)
   | (exact .func _ _ _ _ _ _ .nil .nil (.plain _ (fun _ e=>by cases e)))
   | (rename_i cs e;obtain rfl:=Nat.succ.inj e;obtain⟨l⟩:=cs;exact .agg l l (aB.qo l fun v hv=>ih v (List.all_eq_true.1 h v hv)))
   | (rename_i cs e;obtain rfl:=Nat.succ.inj e;obtain⟨l⟩:=cs;exact .tuple l l (aB.qo l fun v hv=>ih v (List.all_eq_true.1 h v hv)))
   | (rename_i e;obtain rfl:=Nat.succ.inj e;exact .iface _ _ _ (ih _ h))
   | (exact absurd h (by decide))
structure dA (Γ:aT) (m:Tm) (tmps:Array Value):Prop where
 size:m.n=tmps.size
 get:∀ i,ay Γ (match m.t.get i with |some v=>v |none => .tuple ⟨[]⟩) (tmps.getD i undef)
theorem dA.mono {Γ aH:aT} (h:Γ.le aH) {m:Tm} {tmps:Array Value} (k:dA Γ m tmps):dA aH m tmps:=
 ⟨k.size,fun i=>(k.get i).mono h⟩
end Go.Am
