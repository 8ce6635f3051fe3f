/-
  The abstract machine: the trie's laws; when an abstract value and heap stand for the model's; what reading, writing and laying a block keep.
-/
import Derived.Test.YtfhmopghjoeamaaGreatAmB
import Derived.Below
import Derived.Laws.Cells
import Derived.Laws.Entries
set_option linter.unusedSimpArgs false
set_option linter.unusedVariables false
namespace Go.Am
open Go.RowKit
def ofBits:List Bool→Nat
 | []=>0
 |b::k=>2*ofBits k+b.toNat
theorem jM:∀ f n,n≤f→ofBits (bits f n)=n
 |0,n,h=>by
  obtain rfl:n=0:=by omega
  rfl
 |f+1,n,h=>by
  unfold bits
  cases hb:Nat.beq n 0 with
  |true=>have:=Nat.eq_of_beq_eq_true hb;simp[ofBits,this]
  |false=>
   have hn:n≠0:=fun e=>by rw[e] at hb;exact Bool.noConfusion hb
   have hd:Nat.div n 2=n/2:=rfl
   have hm:Nat.mod n 2=n%2:=rfl
   simp only[cond_false,ofBits,hd,hm]
   rw[jM f (n/2) (by omega)]
   cases hq:Nat.beq (n%2) 1 with
   |true=>have:=Nat.eq_of_beq_eq_true hq;simp;omega
   |false=>
    have:n%2≠1:=fun e=>by rw[e] at hq;exact Bool.noConfusion hq
    simp;omega
theorem uv {n m:Nat} (h:bits n n=bits m m):n=m:=by
 rw[←jM n n (Nat.le_refl _),←jM m m (Nat.le_refl _),h]
section trie
variable {α:Type}
@[simp] theorem PT.zj (k:List Bool):PT.gB k (.leaf:PT α)=none:=by cases k<;>rfl
theorem PT.dG:∀ (k:List Bool) (v:Option α) (t:PT α),(t.cA k v).gB k=v
 | [],v,.leaf=>rfl
 | [],v,.node _ _ _=>rfl
 |true::k,v,.leaf=>by simp[PT.cA,PT.gB,PT.dG k]
 |false::k,v,.leaf=>by simp[PT.cA,PT.gB,PT.dG k]
 |true::k,v,.node _ _ _=>by simp[PT.cA,PT.gB,PT.dG k]
 |false::k,v,.node _ _ _=>by simp[PT.cA,PT.gB,PT.dG k]
theorem PT.eG:∀ (k k':List Bool) (v:Option α) (t:PT α),k≠k'→(t.cA k v).gB k'=t.gB k'
 | [],[],_,_,h=>absurd rfl h
 | [],b::k',v,.leaf,_=>by cases b<;>simp[PT.cA,PT.gB]
 | [],b::k',v,.node _ _ _,_=>by cases b<;>simp[PT.cA,PT.gB]
 |b::k,[],v,.leaf,_=>by cases b<;>simp[PT.cA,PT.gB]
 |b::k,[],v,.node _ _ _,_=>by cases b<;>simp[PT.cA,PT.gB]
 |true::k,true::k',v,.leaf,h=>by simpa [PT.cA,PT.gB] using PT.eG k k' v .leaf (fun e=>h (by rw[e]))
 |false::k,false::k',v,.leaf,h=>by simpa [PT.cA,PT.gB] using PT.eG k k' v .leaf (fun e=>h (by rw[e]))
 |true::k,false::k',v,.leaf,_=>by simp[PT.cA,PT.gB]
 |false::k,true::k',v,.leaf,_=>by simp[PT.cA,PT.gB]
 |true::k,true::k',v,.node _ _ r,h=>by simpa [PT.cA,PT.gB] using PT.eG k k' v r (fun e=>h (by rw[e]))
 |false::k,false::k',v,.node l _ _,h=>by simpa [PT.cA,PT.gB] using PT.eG k k' v l (fun e=>h (by rw[e]))
 |true::k,false::k',v,.node _ _ _,_=>by simp[PT.cA,PT.gB]
 |false::k,true::k',v,.node _ _ _,_=>by simp[PT.cA,PT.gB]
theorem PT.eH (t:PT α) (n:Nat) (v:Option α):(t.set n v).get n=v:=PT.dG _ _ _
theorem PT.bJ (t:PT α) {n m:Nat} (v:Option α) (h:n≠m):(t.set n v).get m=t.get m:=
 PT.eG _ _ _ _ fun e=>h (uv e)
theorem PT.aU (t:PT α) (n m:Nat) (v:Option α):(t.set n v).get m=if m=n then v else t.get m:=by
 by_cases h:m=n
 ·subst h;simp[PT.eH]
 ·simp[h,PT.bJ t v (Ne.symm h)]
@[simp] theorem PT.Mg (n:Nat):(PT.leaf:PT α).get n=none:=PT.zj _
theorem PT.pL:∀ (l:List α) (t:PT α) (off i:Nat),(t.ofList off l).get i=if off≤i∧i<off+l.length then l[i-off]? else t.get i
 | [],t,off,i=>by
  have: ¬ (off≤i∧i<off+0):=by omega
  simp only[PT.ofList,List.length_nil,this,if_false]
 |v::vs,t,off,i=>by
  rw[PT.ofList,PT.pL vs,PT.aU]
  by_cases h:i=off
  ·subst h
   have h1: ¬ (i+1≤i∧i<i+1+vs.length):=by omega
   have h2:i≤i∧i<i+(v::vs).length:=by simp
   rw[if_neg h1,if_pos rfl,if_pos h2];simp
  ·by_cases h1:off+1≤i∧i<off+1+vs.length
   ·have h2:off≤i∧i<off+(v::vs).length:=by simp;omega
    rw[if_pos h1,if_pos h2,show i-off=(i-(off+1))+1 by omega];simp
   ·have h2: ¬ (off≤i∧i<off+(v::vs).length):=by simp;omega
    rw[if_neg h1,if_neg h2,if_neg h]
theorem PT.aF (l:List α) (i:Nat):((PT.leaf:PT α).ofList 0 l).get i=l[i]? := by
 rw[PT.pL]
 by_cases h:i<l.length
 ·simp[h]
 ·simp[h]
end trie
theorem PT.dH {α:Type}:∀ (k:List Bool) (u v:Option α) (t:PT α),(t.cA k u).cA k v=t.cA k v
 | [],u,v,.leaf=>rfl
 | [],u,v,.node _ _ _=>rfl
 |true::k,u,v,.leaf=>by simp[PT.cA,PT.dH k]
 |false::k,u,v,.leaf=>by simp[PT.cA,PT.dH k]
 |true::k,u,v,.node _ _ _=>by simp[PT.cA,PT.dH k]
 |false::k,u,v,.node _ _ _=>by simp[PT.cA,PT.dH k]
theorem PT.iL {α:Type}:∀ (k k':List Bool) (u v:Option α) (t:PT α),k≠k'→(t.cA k u).cA k' v=(t.cA k' v).cA k u
 | [],[],_,_,_,h=>absurd rfl h
 | [],b::k',u,v,.leaf,_=>by cases b<;>simp[PT.cA]
 | [],b::k',u,v,.node _ _ _,_=>by cases b<;>simp[PT.cA]
 |b::k,[],u,v,.leaf,_=>by cases b<;>simp[PT.cA]
 |b::k,[],u,v,.node _ _ _,_=>by cases b<;>simp[PT.cA]
 |true::k,true::k',u,v,.leaf,h=>by simp[PT.cA,PT.iL k k' u v .leaf (fun e=>h (by rw[e]))]
 |false::k,false::k',u,v,.leaf,h=>by simp[PT.cA,PT.iL k k' u v .leaf (fun e=>h (by rw[e]))]
 |true::k,true::k',u,v,.node l x r,h=>by simp[PT.cA,PT.iL k k' u v r (fun e=>h (by rw[e]))]
 |false::k,false::k',u,v,.node l x r,h=>by simp[PT.cA,PT.iL k k' u v l (fun e=>h (by rw[e]))]
 |true::k,false::k',u,v,.leaf,_=>by simp[PT.cA]
 |false::k,true::k',u,v,.leaf,_=>by simp[PT.cA]
 |true::k,false::k',u,v,.node _ _ _,_=>by simp[PT.cA]
 |false::k,true::k',u,v,.node _ _ _,_=>by simp[PT.cA]
theorem PT.set_set {α:Type} (t:PT α) (i:Nat) (u v:Option α):(t.set i u).set i v=t.set i v:=PT.dH _ _ _ _
theorem PT.set_comm {α:Type} (t:PT α) {i j:Nat} (u v:Option α) (h:i≠j):(t.set i u).set j v=(t.set j v).set i u:=PT.iL _ _ _ _ _ fun e=>h (uv e)
theorem PT.kZ {α:Type}:∀ (L:List α) (t:PT α) (off i:Nat) (v:Option α),i<off→(PT.ofList t off L).set i v=PT.ofList (t.set i v) off L
 | [],t,off,i,v,h=>rfl
 |x::L,t,off,i,v,h=>by
  rw[PT.ofList,PT.kZ L _ _ _ _ (by omega),PT.ofList,PT.set_comm _ _ _ (by omega)]
theorem PT.pM {α:Type}:∀ (L:List α) (t:PT α) (off i:Nat) (v:α),i<L.length→(PT.ofList t off L).set (off+i) (some v)=PT.ofList t off (L.set i v)
 | [],t,off,i,v,h=>by simp at h
 |x::L,t,off,0,v,h=>by
  rw[PT.ofList,PT.kZ L _ _ _ _ (by omega),Nat.add_zero,PT.set_set];rfl
 |x::L,t,off,i+1,v,h=>by
  rw[PT.ofList,show off+(i+1)=(off+1)+i by omega,PT.pM L _ _ _ _ (by simpa using h)];rfl
theorem kF (L:List Value) (i:Nat) (v:Value) (h:i<L.length):(PT.ofList .leaf 0 L).set i (some v)=PT.ofList .leaf 0 (L.set i v):=by
 have:=PT.pM L .leaf 0 i v h
 rwa [Nat.zero_add] at this
structure aV where
 blk:Nat→Option (Nat×Nat)
 eT:Nat→Option Nat
structure aV.le (Γ aI:aV):Prop where
 blk:∀ i x,Γ.blk i=some x→aI.blk i=some x
 eT:∀ b n,Γ.eT b=some n→aI.eT b=some n
theorem aV.le.refl (Γ:aV):Γ.le Γ:=⟨fun _ _ h=>h,fun _ _ h=>h⟩
theorem aV.le.trans {a b c:aV} (h:a.le b) (k:b.le c):a.le c:=⟨fun i x e=>k.blk i x (h.blk i x e),fun i x e=>k.eT i x (h.eT i x e)⟩
structure aV.addr (Γ:aV) (a a':Addr):Prop where
 spot:a.spot=none
 spot':a'.spot=none
 at_:∃ s,Γ.blk a.block=some (a'.block,s)∧a'.off=s+a.off
theorem aV.addr.mono {Γ aI:aV} (h:Γ.le aI) {a a':Addr} (k:Γ.addr a a'):aI.addr a a':=
 ⟨k.spot,k.spot',let ⟨s,e,o⟩:=k.at_;⟨s,h.blk _ _ e,o⟩⟩
def aV.cap (Γ:aV) (a':Addr) (n c c':Nat):Prop:=
 if aA≤c then n≤c'∧∃ N,Γ.eT a'.block=some N∧a'.off+c'*(c-aA)≤N else c'=c
theorem aV.cap.mono {Γ aI:aV} (h:Γ.le aI) {a':Addr} {n c c':Nat} (k:Γ.cap a' n c c'):aI.cap a' n c c':=by
 unfold aV.cap at*
 split
 ·rename_i hc;rw[if_pos hc] at k;exact⟨k.1,let ⟨N,e,o⟩:=k.2;⟨N,h.eT _ _ e,o⟩⟩
 ·rename_i hc;rw[if_neg hc] at k;exact k
def aV.addr' (Γ:aV) (n c:Nat) (a a':Addr):Prop:=
 Γ.addr a a'∨(n=0∧aA≤c∧a'.spot=none∧∃ s,Γ.blk a.block=some (a'.block,s))∨(n=0∧c=0)
theorem aV.addr'.mono {Γ aI:aV} (h:Γ.le aI) {n c:Nat} {a a':Addr} (k:Γ.addr' n c a a'):aI.addr' n c a a':=
 k.imp (·.mono h) (·.imp (fun ⟨h0,h1,h2,s,h3⟩=>⟨h0,h1,h2,s,h.blk _ _ h3⟩) id)
theorem aV.addr'.spot' {Γ:aV} {n c:Nat} {a a':Addr} (k:Γ.addr' n c a a') (hc:0<c):a'.spot=none:=by
 rcases k with k |k |k
 ·exact k.spot'
 ·exact k.2.2.1
 ·exact absurd k.2 (by omega)
theorem aV.addr'.block {Γ:aV} {n c:Nat} {a a':Addr} (k:Γ.addr' n c a a') (hc:0<c):∃ s,Γ.blk a.block=some (a'.block,s):=by
 rcases k with k |k |k
 ·obtain⟨s,e,_⟩:=k.at_;exact⟨s,e⟩
 ·exact k.2.2.2
 ·exact absurd k.2 (by omega)
theorem aV.addr'.exact {Γ:aV} {n c:Nat} {a a':Addr} (k:Γ.addr' n c a a') (h:0<n∨(¬aA≤c∧0<c)):Γ.addr a a':=by
 rcases k with k |k |k
 ·exact k
 ·rcases h with h |h
  ·exact absurd k.1 (by omega)
  ·exact absurd k.2.1 h.1
 ·rcases h with h |h
  ·exact absurd k.1 (by omega)
  ·exact absurd k.2 (by omega)
inductive pN (Γ:aV):Fn→Fn→Prop
 |plain (fn:Fn) (h:∀ l,fn ≠ .yield l):pN Γ fn fn
 |yield (l l':Nat) (h:Γ.blk l=some (l',0)):pN Γ (.yield l) (.yield l')
theorem pN.mono {Γ aI:aV} (h:Γ.le aI) {f f':Fn} (k:pN Γ f f'):pN aI f f':=by
 cases k with
 |plain _ hp=>exact .plain _ hp
 |yield l l' hl=>exact .yield l l' (h.blk _ _ hl)
mutual
inductive ay (Γ:aV):Value→Value→Prop
 |bool (b:Bool):ay Γ (.bool b) (.bool b)
 |int (k:IntKind) (n:Int):ay Γ (.int k n) (.int k n)
 |float (k:FloatKind) (n:Nat):ay Γ (.float k n) (.float k n)
 |complex (k:FloatKind) (n m:Nat):ay Γ (.complex k n m) (.complex k n m)
 |string (s:ByteArray):ay Γ (.string s) (.string s)
 |eX:ay Γ (.pointer none) (.pointer none)
 |ptr (a a':Addr) (h:Γ.addr a a'):ay Γ (.pointer (some a)) (.pointer (some a'))
 |nilslice (n c:Nat):ay Γ (.slice none n c) (.slice none n c)
 |slice (a a':Addr) (n c c':Nat) (h:Γ.addr' n c a a') (hc:Γ.cap a' n c c'):ay Γ (.slice (some a) n c) (.slice (some a') n c')
 |eY:ay Γ (.map none) (.map none)
 |map (r r':Nat) (h:Γ.blk r=some (r',0)):ay Γ (.map (some r)) (.map (some r'))
 |l6:ay Γ (.chan none) (.chan none)
 |func (fn fn':Fn) (f f' c c':List Value) (hf:aD Γ f f') (hc:aD Γ c c') (hp:pN Γ fn fn'):ay Γ (.func fn ⟨f⟩ ⟨c⟩) (.func fn' ⟨f'⟩ ⟨c'⟩)
 |dY:ay Γ .nilFunc .nilFunc
 |iface (t:TypeId) (v v':Value) (h:ay Γ v v'):ay Γ (.iface t v) (.iface t v')
 |cE:ay Γ .nilIface .nilIface
 |agg (l l':List Value) (h:aD Γ l l'):ay Γ (.agg ⟨l⟩) (.agg ⟨l'⟩)
 |tuple (l l':List Value) (h:aD Γ l l'):ay Γ (.tuple ⟨l⟩) (.tuple ⟨l'⟩)
inductive aD (Γ:aV):List Value→List Value→Prop
 |nil:aD Γ [] []
 |cons (v v':Value) (l l':List Value) (h:ay Γ v v') (t:aD Γ l l'):aD Γ (v::l) (v'::l')
end
mutual
theorem ay.mono {Γ aI:aV} (h:Γ.le aI):∀ {v v':Value},ay Γ v v'→ay aI v v'
 | _,_,.bool b => .bool b
 | _,_,.int k n => .int k n
 | _,_,.float k n => .float k n
 | _,_,.complex k n m => .complex k n m
 | _,_,.string s => .string s
 | _,_,.eX => .eX
 | _,_,.ptr a a' e => .ptr a a' (e.mono h)
 | _,_,.nilslice n c => .nilslice n c
 | _,_,.slice a a' n c c' e k => .slice a a' n c c' (e.mono h) (k.mono h)
 | _,_,.eY => .eY
 | _,_,.map r r' e => .map r r' (h.blk _ _ e)
 | _,_,.l6 => .l6
 | _,_,.func fn fn' f f' c c' e k hp => .func fn fn' f f' c c' (aD.mono h e) (aD.mono h k) (hp.mono h)
 | _,_,.dY => .dY
 | _,_,.iface t v v' e => .iface t v v' (ay.mono h e)
 | _,_,.cE => .cE
 | _,_,.agg l l' e => .agg l l' (aD.mono h e)
 | _,_,.tuple l l' e => .tuple l l' (aD.mono h e)
theorem aD.mono {Γ aI:aV} (h:Γ.le aI):∀ {l l':List Value},aD Γ l l'→aD aI l l'
 | _,_,.nil => .nil
 | _,_,.cons v v' l l' e k => .cons v v' l l' (ay.mono h e) (aD.mono h k)
end
theorem aD.length {Γ:aV}:∀ {l l':List Value},aD Γ l l'→l'.length=l.length
 | _,_,.nil=>rfl
 | _,_,.cons _ _ _ _ _ t=>by simp[aD.length t]
theorem aD.get {Γ:aV}:∀ {l l':List Value} (_:aD Γ l l') {i:Nat} {v:Value},l[i]? = some v→∃ v',l'[i]? = some v'∧ay Γ v v'
 | _,_,.nil,i,v,e=>by simp at e
 | _,_,.cons _ v' _ _ h t,0,v,e=>by simp at e;subst e;exact⟨v',rfl,h⟩
 | _,_,.cons _ _ _ _ h t,i+1,v,e=>by simp at e;simpa using aD.get t e
theorem aD.append {Γ:aV}:∀ {l l' m m':List Value},aD Γ l l'→aD Γ m m'→aD Γ (l++m) (l'++m')
 | _,_,_,_,.nil,k=>k
 | _,_,_,_,.cons v v' l l' h t,k => .cons v v' _ _ h (aD.append t k)
theorem aD.take {Γ:aV}:∀ {l l':List Value} (n:Nat),aD Γ l l'→aD Γ (l.take n) (l'.take n)
 | _,_,0,_=>by simpa using .nil
 | _,_,n+1,.nil=>by simpa using .nil
 | _,_,n+1,.cons v v' l l' h t=>by simpa using .cons v v' _ _ h (aD.take n t)
theorem aD.drop {Γ:aV}:∀ {l l':List Value} (n:Nat),aD Γ l l'→aD Γ (l.drop n) (l'.drop n)
 | _,_,0,h=>by simpa using h
 | _,_,n+1,.nil=>by simpa using .nil
 | _,_,n+1,.cons v v' l l' h t=>by simpa using aD.drop n t
theorem aD.map {Γ:aV} {α:Type} {f f':α→Value}:∀ (l:List α),(∀ x∈l,ay Γ (f x) (f' x))→aD Γ (l.map f) (l.map f')
 | [],_ => .nil
 |x::l,h => .cons _ _ _ _ (h x (by simp)) (aD.map l fun y hy=>h y (by simp[hy]))
theorem aD.sP {Γ:aV}:∀ (l:List Value),(∀ v∈l,ay Γ v v)→aD Γ l l
 | [],_ => .nil
 |v::l,h => .cons _ _ _ _ (h v (by simp)) (aD.sP l fun y hy=>h y (by simp[hy]))
theorem uw {Γ:aV}:∀ (n:Nat) (v:Value),flat n v=true→ay Γ v v:=by
 intro n
 induction n with
 |zero=>
  intro v h
  unfold flat at h
  split at h<;>first
   | (constructor;done)
   | (exact .func _ _ _ _ _ _ .nil .nil (.plain _ (fun _ e=>by cases e)))
   | (rename_i e;exact absurd e (by omega))
   | (exact absurd h (by decide))
 |succ n ih=>
  intro v h
  unfold flat at h
  split at h<;>first
   | (constructor;done)
   | (exact .func _ _ _ _ _ _ .nil .nil (.plain _ (fun _ e=>by cases e)))
   | (rename_i cs e;obtain rfl:=Nat.succ.inj e;obtain⟨l⟩:=cs;exact .agg l l (aD.sP l fun v hv=>ih v (List.all_eq_true.1 h v hv)))
   | (rename_i cs e;obtain rfl:=Nat.succ.inj e;obtain⟨l⟩:=cs;exact .tuple l l (aD.sP l fun v hv=>ih v (List.all_eq_true.1 h v hv)))
   | (rename_i e;obtain rfl:=Nat.succ.inj e;exact .iface _ _ _ (ih _ h))
   | (exact absurd h (by decide))
structure dU (Γ:aV) (m:Tm) (tmps:Array Value):Prop where
 size:m.n=tmps.size
 get:∀ i,ay Γ (match m.t.get i with |some v=>v |none => .tuple ⟨[]⟩) (tmps.getD i undef)
theorem dU.mono {Γ aI:aV} (h:Γ.le aI) {m:Tm} {tmps:Array Value} (k:dU Γ m tmps):dU aI m tmps:=
 ⟨k.size,fun i=>(k.get i).mono h⟩
end Go.Am
