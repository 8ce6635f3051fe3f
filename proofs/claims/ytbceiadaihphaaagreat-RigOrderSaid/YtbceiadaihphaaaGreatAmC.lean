/-
  The abstract machine: the trie's laws; when an abstract value and heap stand for the model's; what reading, writing and laying a block keep.
-/
import Derived.Test.YtbceiadaihphaaaGreatAmB
import Derived.Below
import Derived.Laws.Cells
import Derived.Laws.Entries
set_option linter.unusedSimpArgs false
set_option linter.unusedVariables false
namespace Go.Am
open Go.RowKit
def ofBits:List Bool→Nat
 | []=>0
 |b::k=>2*ofBits k+b.toNat
theorem lC:∀ f n,n≤f→ofBits (bits f n)=n
 |0,n,h=>by
  obtain rfl:n=0:=by omega
  rfl
 |f+1,n,h=>by
  unfold bits
  cases hb:Nat.beq n 0 with
  |true=>have:=Nat.eq_of_beq_eq_true hb;simp[ofBits,this]
  |false=>
   have hn:n≠0:=fun e=>by rw[e] at hb;exact Bool.noConfusion hb
   have hd:Nat.div n 2=n/2:=rfl
   have hm:Nat.mod n 2=n%2:=rfl
   simp only[cond_false,ofBits,hd,hm]
   rw[lC f (n/2) (by omega)]
   cases hq:Nat.beq (n%2) 1 with
   |true=>have:=Nat.eq_of_beq_eq_true hq;simp;omega
   |false=>
    have:n%2≠1:=fun e=>by rw[e] at hq;exact Bool.noConfusion hq
    simp;omega
theorem vr {n m:Nat} (h:bits n n=bits m m):n=m:=by
 rw[←lC n n (Nat.le_refl _),←lC m m (Nat.le_refl _),h]
section trie
variable {α:Type}
@[simp] theorem PT.AH (k:List Bool):PT.iK k (.leaf:PT α)=none:=by cases k<;>rfl
theorem PT.eO:∀ (k:List Bool) (v:Option α) (t:PT α),(t.cW k v).iK k=v
 | [],v,.leaf=>rfl
 | [],v,.node _ _ _=>rfl
 |true::k,v,.leaf=>by simp[PT.cW,PT.iK,PT.eO k]
 |false::k,v,.leaf=>by simp[PT.cW,PT.iK,PT.eO k]
 |true::k,v,.node _ _ _=>by simp[PT.cW,PT.iK,PT.eO k]
 |false::k,v,.node _ _ _=>by simp[PT.cW,PT.iK,PT.eO k]
theorem PT.gb:∀ (k k':List Bool) (v:Option α) (t:PT α),k≠k'→(t.cW k v).iK k'=t.iK k'
 | [],[],_,_,h=>absurd rfl h
 | [],b::k',v,.leaf,_=>by cases b<;>simp[PT.cW,PT.iK]
 | [],b::k',v,.node _ _ _,_=>by cases b<;>simp[PT.cW,PT.iK]
 |b::k,[],v,.leaf,_=>by cases b<;>simp[PT.cW,PT.iK]
 |b::k,[],v,.node _ _ _,_=>by cases b<;>simp[PT.cW,PT.iK]
 |true::k,true::k',v,.leaf,h=>by simpa [PT.cW,PT.iK] using PT.gb k k' v .leaf (fun e=>h (by rw[e]))
 |false::k,false::k',v,.leaf,h=>by simpa [PT.cW,PT.iK] using PT.gb k k' v .leaf (fun e=>h (by rw[e]))
 |true::k,false::k',v,.leaf,_=>by simp[PT.cW,PT.iK]
 |false::k,true::k',v,.leaf,_=>by simp[PT.cW,PT.iK]
 |true::k,true::k',v,.node _ _ r,h=>by simpa [PT.cW,PT.iK] using PT.gb k k' v r (fun e=>h (by rw[e]))
 |false::k,false::k',v,.node l _ _,h=>by simpa [PT.cW,PT.iK] using PT.gb k k' v l (fun e=>h (by rw[e]))
 |true::k,false::k',v,.node _ _ _,_=>by simp[PT.cW,PT.iK]
 |false::k,true::k',v,.node _ _ _,_=>by simp[PT.cW,PT.iK]
theorem PT.gi (t:PT α) (n:Nat) (v:Option α):(t.set n v).get n=v:=PT.eO _ _ _
theorem PT.cF (t:PT α) {n m:Nat} (v:Option α) (h:n≠m):(t.set n v).get m=t.get m:=
 PT.gb _ _ _ _ fun e=>h (vr e)
theorem PT.bK (t:PT α) (n m:Nat) (v:Option α):(t.set n v).get m=if m=n then v else t.get m:=by
 by_cases h:m=n
 ·subst h;simp[PT.gi]
 ·simp[h,PT.cF t v (Ne.symm h)]
@[simp] theorem PT.O8 (n:Nat):(PT.leaf:PT α).get n=none:=PT.AH _
theorem PT.qZ:∀ (l:List α) (t:PT α) (off i:Nat),(t.ofList off l).get i=if off≤i∧i<off+l.length then l[i-off]? else t.get i
 | [],t,off,i=>by
  have: ¬ (off≤i∧i<off+0):=by omega
  simp only[PT.ofList,List.length_nil,this,if_false]
 |v::vs,t,off,i=>by
  rw[PT.ofList,PT.qZ vs,PT.bK]
  by_cases h:i=off
  ·subst h
   have h1: ¬ (i+1≤i∧i<i+1+vs.length):=by omega
   have h2:i≤i∧i<i+(v::vs).length:=by simp
   rw[if_neg h1,if_pos rfl,if_pos h2];simp
  ·by_cases h1:off+1≤i∧i<off+1+vs.length
   ·have h2:off≤i∧i<off+(v::vs).length:=by simp;omega
    rw[if_pos h1,if_pos h2,show i-off=(i-(off+1))+1 by omega];simp
   ·have h2: ¬ (off≤i∧i<off+(v::vs).length):=by simp;omega
    rw[if_neg h1,if_neg h2,if_neg h]
theorem PT.bf (l:List α) (i:Nat):((PT.leaf:PT α).ofList 0 l).get i=l[i]? := by
 rw[PT.qZ]
 by_cases h:i<l.length
 ·simp[h]
 ·simp[h]
end trie
theorem PT.eR {α:Type}:∀ (k:List Bool) (u v:Option α) (t:PT α),(t.cW k u).cW k v=t.cW k v
 | [],u,v,.leaf=>rfl
 | [],u,v,.node _ _ _=>rfl
 |true::k,u,v,.leaf=>by simp[PT.cW,PT.eR k]
 |false::k,u,v,.leaf=>by simp[PT.cW,PT.eR k]
 |true::k,u,v,.node _ _ _=>by simp[PT.cW,PT.eR k]
 |false::k,u,v,.node _ _ _=>by simp[PT.cW,PT.eR k]
theorem PT.jJ {α:Type}:∀ (k k':List Bool) (u v:Option α) (t:PT α),k≠k'→(t.cW k u).cW k' v=(t.cW k' v).cW k u
 | [],[],_,_,_,h=>absurd rfl h
 | [],b::k',u,v,.leaf,_=>by cases b<;>simp[PT.cW]
 | [],b::k',u,v,.node _ _ _,_=>by cases b<;>simp[PT.cW]
 |b::k,[],u,v,.leaf,_=>by cases b<;>simp[PT.cW]
 |b::k,[],u,v,.node _ _ _,_=>by cases b<;>simp[PT.cW]
 |true::k,true::k',u,v,.leaf,h=>by simp[PT.cW,PT.jJ k k' u v .leaf (fun e=>h (by rw[e]))]
 |false::k,false::k',u,v,.leaf,h=>by simp[PT.cW,PT.jJ k k' u v .leaf (fun e=>h (by rw[e]))]
 |true::k,true::k',u,v,.node l x r,h=>by simp[PT.cW,PT.jJ k k' u v r (fun e=>h (by rw[e]))]
 |false::k,false::k',u,v,.node l x r,h=>by simp[PT.cW,PT.jJ k k' u v l (fun e=>h (by rw[e]))]
 |true::k,false::k',u,v,.leaf,_=>by simp[PT.cW]
 |false::k,true::k',u,v,.leaf,_=>by simp[PT.cW]
 |true::k,false::k',u,v,.node _ _ _,_=>by simp[PT.cW]
 |false::k,true::k',u,v,.node _ _ _,_=>by simp[PT.cW]
theorem PT.set_set {α:Type} (t:PT α) (i:Nat) (u v:Option α):(t.set i u).set i v=t.set i v:=PT.eR _ _ _ _
theorem PT.set_comm {α:Type} (t:PT α) {i j:Nat} (u v:Option α) (h:i≠j):(t.set i u).set j v=(t.set j v).set i u:=PT.jJ _ _ _ _ _ fun e=>h (vr e)
theorem PT.nh {α:Type}:∀ (L:List α) (t:PT α) (off i:Nat) (v:Option α),i<off→(PT.ofList t off L).set i v=PT.ofList (t.set i v) off L
 | [],t,off,i,v,h=>rfl
 |x::L,t,off,i,v,h=>by
  rw[PT.ofList,PT.nh L _ _ _ _ (by omega),PT.ofList,PT.set_comm _ _ _ (by omega)]
theorem PT.q9 {α:Type}:∀ (L:List α) (t:PT α) (off i:Nat) (v:α),i<L.length→(PT.ofList t off L).set (off+i) (some v)=PT.ofList t off (L.set i v)
 | [],t,off,i,v,h=>by simp at h
 |x::L,t,off,0,v,h=>by
  rw[PT.ofList,PT.nh L _ _ _ _ (by omega),Nat.add_zero,PT.set_set];rfl
 |x::L,t,off,i+1,v,h=>by
  rw[PT.ofList,show off+(i+1)=(off+1)+i by omega,PT.q9 L _ _ _ _ (by simpa using h)];rfl
theorem mJ (L:List Value) (i:Nat) (v:Value) (h:i<L.length):(PT.ofList .leaf 0 L).set i (some v)=PT.ofList .leaf 0 (L.set i v):=by
 have:=PT.q9 L .leaf 0 i v h
 rwa [Nat.zero_add] at this
structure bu where
 bW:Nat→Option (Nat×Nat)
 iB:Nat→Option Nat
structure bu.le (Γ aS:bu):Prop where
 bW:∀ i x,Γ.bW i=some x→aS.bW i=some x
 iB:∀ b n,Γ.iB b=some n→aS.iB b=some n
theorem bu.le.refl (Γ:bu):Γ.le Γ:=⟨fun _ _ h=>h,fun _ _ h=>h⟩
theorem bu.le.trans {a b c:bu} (h:a.le b) (k:b.le c):a.le c:=⟨fun i x e=>k.bW i x (h.bW i x e),fun i x e=>k.iB i x (h.iB i x e)⟩
structure bu.addr (Γ:bu) (a a':Addr):Prop where
 spot:a.spot=none
 spot':a'.spot=none
 at_:∃ s,Γ.bW a.block=some (a'.block,s)∧a'.off=s+a.off
theorem bu.addr.mono {Γ aS:bu} (h:Γ.le aS) {a a':Addr} (k:Γ.addr a a'):aS.addr a a':=
 ⟨k.spot,k.spot',let ⟨s,e,o⟩:=k.at_;⟨s,h.bW _ _ e,o⟩⟩
def bu.cap (Γ:bu) (a':Addr) (n c c':Nat):Prop:=
 if aB≤c then n≤c'∧∃ N,Γ.iB a'.block=some N∧a'.off+c'*(c-aB)≤N else c'=c
theorem bu.cap.mono {Γ aS:bu} (h:Γ.le aS) {a':Addr} {n c c':Nat} (k:Γ.cap a' n c c'):aS.cap a' n c c':=by
 unfold bu.cap at*
 split
 ·rename_i hc;rw[if_pos hc] at k;exact⟨k.1,let ⟨N,e,o⟩:=k.2;⟨N,h.iB _ _ e,o⟩⟩
 ·rename_i hc;rw[if_neg hc] at k;exact k
def bu.addr' (Γ:bu) (n c:Nat) (a a':Addr):Prop:=
 Γ.addr a a'∨(n=0∧aB≤c∧a'.spot=none∧∃ s,Γ.bW a.block=some (a'.block,s))∨(n=0∧c=0)
theorem bu.addr'.mono {Γ aS:bu} (h:Γ.le aS) {n c:Nat} {a a':Addr} (k:Γ.addr' n c a a'):aS.addr' n c a a':=
 k.imp (·.mono h) (·.imp (fun ⟨h0,h1,h2,s,h3⟩=>⟨h0,h1,h2,s,h.bW _ _ h3⟩) id)
theorem bu.addr'.spot' {Γ:bu} {n c:Nat} {a a':Addr} (k:Γ.addr' n c a a') (hc:0<c):a'.spot=none:=by
 rcases k with k |k |k
 ·exact k.spot'
 ·exact k.2.2.1
 ·exact absurd k.2 (by omega)
theorem bu.addr'.block {Γ:bu} {n c:Nat} {a a':Addr} (k:Γ.addr' n c a a') (hc:0<c):∃ s,Γ.bW a.block=some (a'.block,s):=by
 rcases k with k |k |k
 ·obtain⟨s,e,_⟩:=k.at_;exact⟨s,e⟩
 ·exact k.2.2.2
 ·exact absurd k.2 (by omega)
theorem bu.addr'.exact {Γ:bu} {n c:Nat} {a a':Addr} (k:Γ.addr' n c a a') (h:0<n∨(¬aB≤c∧0<c)):Γ.addr a a':=by
 rcases k with k |k |k
 ·exact k
 ·rcases h with h |h
  ·exact absurd k.1 (by omega)
  ·exact absurd k.2.1 h.1
 ·rcases h with h |h
  ·exact absurd k.1 (by omega)
  ·exact absurd k.2 (by omega)
inductive q_ (Γ:bu):Fn→Fn→Prop
 |plain (fn:Fn) (h:∀ l,fn ≠ .yield l):q_ Γ fn fn
 |yield (l l':Nat) (h:Γ.bW l=some (l',0)):q_ Γ (.yield l) (.yield l')
theorem q_.mono {Γ aS:bu} (h:Γ.le aS) {f f':Fn} (k:q_ Γ f f'):q_ aS f f':=by
 cases k with
 |plain _ hp=>exact .plain _ hp
 |yield l l' hl=>exact .yield l l' (h.bW _ _ hl)
mutual
inductive aF (Γ:bu):Value→Value→Prop
 |bool (b:Bool):aF Γ (.bool b) (.bool b)
 |int (k:IntKind) (n:Int):aF Γ (.int k n) (.int k n)
 |float (k:FloatKind) (n:Nat):aF Γ (.float k n) (.float k n)
 |complex (k:FloatKind) (n m:Nat):aF Γ (.complex k n m) (.complex k n m)
 |string (s:ByteArray):aF Γ (.string s) (.string s)
 |gE:aF Γ (.pointer none) (.pointer none)
 |ptr (a a':Addr) (h:Γ.addr a a'):aF Γ (.pointer (some a)) (.pointer (some a'))
 |nilslice (n c:Nat):aF Γ (.slice none n c) (.slice none n c)
 |slice (a a':Addr) (n c c':Nat) (h:Γ.addr' n c a a') (hc:Γ.cap a' n c c'):aF Γ (.slice (some a) n c) (.slice (some a') n c')
 |gF:aF Γ (.map none) (.map none)
 |map (r r':Nat) (h:Γ.bW r=some (r',0)):aF Γ (.map (some r)) (.map (some r'))
 |ot:aF Γ (.chan none) (.chan none)
 |func (fn fn':Fn) (f f' c c':List Value) (hf:aH Γ f f') (hc:aH Γ c c') (hp:q_ Γ fn fn'):aF Γ (.func fn ⟨f⟩ ⟨c⟩) (.func fn' ⟨f'⟩ ⟨c'⟩)
 |fJ:aF Γ .nilFunc .nilFunc
 |iface (t:TypeId) (v v':Value) (h:aF Γ v v'):aF Γ (.iface t v) (.iface t v')
 |dh:aF Γ .nilIface .nilIface
 |agg (l l':List Value) (h:aH Γ l l'):aF Γ (.agg ⟨l⟩) (.agg ⟨l'⟩)
 |tuple (l l':List Value) (h:aH Γ l l'):aF Γ (.tuple ⟨l⟩) (.tuple ⟨l'⟩)
inductive aH (Γ:bu):List Value→List Value→Prop
 |nil:aH Γ [] []
 |cons (v v':Value) (l l':List Value) (h:aF Γ v v') (t:aH Γ l l'):aH Γ (v::l) (v'::l')
end
mutual
theorem aF.mono {Γ aS:bu} (h:Γ.le aS):∀ {v v':Value},aF Γ v v'→aF aS v v'
 | _,_,.bool b => .bool b
 | _,_,.int k n => .int k n
 | _,_,.float k n => .float k n
 | _,_,.complex k n m => .complex k n m
 | _,_,.string s => .string s
 | _,_,.gE => .gE
 | _,_,.ptr a a' e => .ptr a a' (e.mono h)
 | _,_,.nilslice n c => .nilslice n c
 | _,_,.slice a a' n c c' e k => .slice a a' n c c' (e.mono h) (k.mono h)
 | _,_,.gF => .gF
 | _,_,.map r r' e => .map r r' (h.bW _ _ e)
 | _,_,.ot => .ot
 | _,_,.func fn fn' f f' c c' e k hp => .func fn fn' f f' c c' (aH.mono h e) (aH.mono h k) (hp.mono h)
 | _,_,.fJ => .fJ
 | _,_,.iface t v v' e => .iface t v v' (aF.mono h e)
 | _,_,.dh => .dh
 | _,_,.agg l l' e => .agg l l' (aH.mono h e)
 | _,_,.tuple l l' e => .tuple l l' (aH.mono h e)
theorem aH.mono {Γ aS:bu} (h:Γ.le aS):∀ {l l':List Value},aH Γ l l'→aH aS l l'
 | _,_,.nil => .nil
 | _,_,.cons v v' l l' e k => .cons v v' l l' (aF.mono h e) (aH.mono h k)
end
theorem aH.length {Γ:bu}:∀ {l l':List Value},aH Γ l l'→l'.length=l.length
 | _,_,.nil=>rfl
 | _,_,.cons _ _ _ _ _ t=>by simp[aH.length t]
theorem aH.get {Γ:bu}:∀ {l l':List Value} (_:aH Γ l l') {i:Nat} {v:Value},l[i]? = some v→∃ v',l'[i]? = some v'∧aF Γ v v'
 | _,_,.nil,i,v,e=>by simp at e
 | _,_,.cons _ v' _ _ h t,0,v,e=>by simp at e;subst e;exact⟨v',rfl,h⟩
 | _,_,.cons _ _ _ _ h t,i+1,v,e=>by simp at e;simpa using aH.get t e
theorem aH.append {Γ:bu}:∀ {l l' m m':List Value},aH Γ l l'→aH Γ m m'→aH Γ (l++m) (l'++m')
 | _,_,_,_,.nil,k=>k
 | _,_,_,_,.cons v v' l l' h t,k => .cons v v' _ _ h (aH.append t k)
theorem aH.take {Γ:bu}:∀ {l l':List Value} (n:Nat),aH Γ l l'→aH Γ (l.take n) (l'.take n)
 | _,_,0,_=>by simpa using .nil
 | _,_,n+1,.nil=>by simpa using .nil
 | _,_,n+1,.cons v v' l l' h t=>by simpa using .cons v v' _ _ h (aH.take n t)
theorem aH.drop {Γ:bu}:∀ {l l':List Value} (n:Nat),aH Γ l l'→aH Γ (l.drop n) (l'.drop n)
 | _,_,0,h=>by simpa using h
 | _,_,n+1,.nil=>by simpa using .nil
 | _,_,n+1,.cons v v' l l' h t=>by simpa using aH.drop n t
theorem aH.map {Γ:bu} {α:Type} {f f':α→Value}:∀ (l:List α),(∀ x∈l,aF Γ (f x) (f' x))→aH Γ (l.map f) (l.map f')
 | [],_ => .nil
 |x::l,h => .cons _ _ _ _ (h x (by simp)) (aH.map l fun y hy=>h y (by simp[hy]))
theorem aH.uk {Γ:bu}:∀ (l:List Value),(∀ v∈l,aF Γ v v)→aH Γ l l
 | [],_ => .nil
 |v::l,h => .cons _ _ _ _ (h v (by simp)) (aH.uk l fun y hy=>h y (by simp[hy]))
theorem vu {Γ:bu}:∀ (n:Nat) (v:Value),flat n v=true→aF Γ v v:=by
 intro n
 induction n with
 |zero=>
  intro v h
  unfold flat at h
  split at h<;>first
   | (constructor;done)
   | (exact .func _ _ _ _ _ _ .nil .nil (.plain _ (fun _ e=>by cases e)))
   | (rename_i e;exact absurd e (by omega))
   | (exact absurd h (by decide))
 |succ n ih=>
  intro v h
  unfold flat at h
  split at h<;>first
   | (constructor;done)
   | (exact .func _ _ _ _ _ _ .nil .nil (.plain _ (fun _ e=>by cases e)))
   | (rename_i cs e;obtain rfl:=Nat.succ.inj e;obtain⟨l⟩:=cs;exact .agg l l (aH.uk l fun v hv=>ih v (List.all_eq_true.1 h v hv)))
   | (rename_i cs e;obtain rfl:=Nat.succ.inj e;obtain⟨l⟩:=cs;exact .tuple l l (aH.uk l fun v hv=>ih v (List.all_eq_true.1 h v hv)))
   | (rename_i e;obtain rfl:=Nat.succ.inj e;exact .iface _ _ _ (ih _ h))
   | (exact absurd h (by decide))
structure fE (Γ:bu) (m:Tm) (tmps:Array Value):Prop where
 size:m.n=tmps.size
 get:∀ i,aF Γ (match m.t.get i with |some v=>v |none => .tuple ⟨[]⟩) (tmps.getD i undef)
theorem fE.mono {Γ aS:bu} (h:Γ.le aS) {m:Tm} {tmps:Array Value} (k:fE Γ m tmps):fE aS m tmps:=
 ⟨k.size,fun i=>(k.get i).mono h⟩
end Go.Am
