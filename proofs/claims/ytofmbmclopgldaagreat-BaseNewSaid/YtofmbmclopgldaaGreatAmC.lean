/-
  The abstract machine: the trie's laws; when an abstract value and heap stand for the model's; what reading, writing and laying a block keep.
-/
import Derived.Test.YtofmbmclopgldaaGreatAmB
import Derived.Below
import Derived.Laws.Cells
import Derived.Laws.Entries
set_option linter.unusedSimpArgs false
set_option linter.unusedVariables false
namespace Go.Am
open Go.RowKit
def ofBits:List Bool→Nat
 | []=>0
 |b::k=>2*ofBits k+b.toNat
theorem lD:∀ f n,n≤f→ofBits (bits f n)=n
 |0,n,h=>by
  obtain rfl:n=0:=by omega
  rfl
 |f+1,n,h=>by
  unfold bits
  cases hb:Nat.beq n 0 with
  |true=>have:=Nat.eq_of_beq_eq_true hb;simp[ofBits,this]
  |false=>
   have hn:n≠0:=fun e=>by rw[e] at hb;exact Bool.noConfusion hb
   have hd:Nat.div n 2=n/2:=rfl
   have hm:Nat.mod n 2=n%2:=rfl
   simp only[cond_false,ofBits,hd,hm]
   rw[lD f (n/2) (by omega)]
   cases hq:Nat.beq (n%2) 1 with
   |true=>have:=Nat.eq_of_beq_eq_true hq;simp;omega
   |false=>
    have:n%2≠1:=fun e=>by rw[e] at hq;exact Bool.noConfusion hq
    simp;omega
theorem xw {n m:Nat} (h:bits n n=bits m m):n=m:=by
 rw[←lD n n (Nat.le_refl _),←lD m m (Nat.le_refl _),h]
section trie
variable {α:Type}
@[simp] theorem PT.CB (k:List Bool):PT.ef k (.leaf:PT α)=none:=by cases k<;>rfl
theorem PT.eF:∀ (k:List Bool) (v:Option α) (t:PT α),(t.cP k v).ef k=v
 | [],v,.leaf=>rfl
 | [],v,.node _ _ _=>rfl
 |true::k,v,.leaf=>by simp[PT.cP,PT.ef,PT.eF k]
 |false::k,v,.leaf=>by simp[PT.cP,PT.ef,PT.eF k]
 |true::k,v,.node _ _ _=>by simp[PT.cP,PT.ef,PT.eF k]
 |false::k,v,.node _ _ _=>by simp[PT.cP,PT.ef,PT.eF k]
theorem PT.gj:∀ (k k':List Bool) (v:Option α) (t:PT α),k≠k'→(t.cP k v).ef k'=t.ef k'
 | [],[],_,_,h=>absurd rfl h
 | [],b::k',v,.leaf,_=>by cases b<;>simp[PT.cP,PT.ef]
 | [],b::k',v,.node _ _ _,_=>by cases b<;>simp[PT.cP,PT.ef]
 |b::k,[],v,.leaf,_=>by cases b<;>simp[PT.cP,PT.ef]
 |b::k,[],v,.node _ _ _,_=>by cases b<;>simp[PT.cP,PT.ef]
 |true::k,true::k',v,.leaf,h=>by simpa [PT.cP,PT.ef] using PT.gj k k' v .leaf (fun e=>h (by rw[e]))
 |false::k,false::k',v,.leaf,h=>by simpa [PT.cP,PT.ef] using PT.gj k k' v .leaf (fun e=>h (by rw[e]))
 |true::k,false::k',v,.leaf,_=>by simp[PT.cP,PT.ef]
 |false::k,true::k',v,.leaf,_=>by simp[PT.cP,PT.ef]
 |true::k,true::k',v,.node _ _ r,h=>by simpa [PT.cP,PT.ef] using PT.gj k k' v r (fun e=>h (by rw[e]))
 |false::k,false::k',v,.node l _ _,h=>by simpa [PT.cP,PT.ef] using PT.gj k k' v l (fun e=>h (by rw[e]))
 |true::k,false::k',v,.node _ _ _,_=>by simp[PT.cP,PT.ef]
 |false::k,true::k',v,.node _ _ _,_=>by simp[PT.cP,PT.ef]
theorem PT.gl (t:PT α) (n:Nat) (v:Option α):(t.set n v).get n=v:=PT.eF _ _ _
theorem PT.bO (t:PT α) {n m:Nat} (v:Option α) (h:n≠m):(t.set n v).get m=t.get m:=
 PT.gj _ _ _ _ fun e=>h (xw e)
theorem PT.aZ (t:PT α) (n m:Nat) (v:Option α):(t.set n v).get m=if m=n then v else t.get m:=by
 by_cases h:m=n
 ·subst h;simp[PT.gl]
 ·simp[h,PT.bO t v (Ne.symm h)]
@[simp] theorem PT.RY (n:Nat):(PT.leaf:PT α).get n=none:=PT.CB _
theorem PT.rK:∀ (l:List α) (t:PT α) (off i:Nat),(t.ofList off l).get i=if off≤i∧i<off+l.length then l[i-off]? else t.get i
 | [],t,off,i=>by
  have: ¬ (off≤i∧i<off+0):=by omega
  simp only[PT.ofList,List.length_nil,this,if_false]
 |v::vs,t,off,i=>by
  rw[PT.ofList,PT.rK vs,PT.aZ]
  by_cases h:i=off
  ·subst h
   have h1: ¬ (i+1≤i∧i<i+1+vs.length):=by omega
   have h2:i≤i∧i<i+(v::vs).length:=by simp
   rw[if_neg h1,if_pos rfl,if_pos h2];simp
  ·by_cases h1:off+1≤i∧i<off+1+vs.length
   ·have h2:off≤i∧i<off+(v::vs).length:=by simp;omega
    rw[if_pos h1,if_pos h2,show i-off=(i-(off+1))+1 by omega];simp
   ·have h2: ¬ (off≤i∧i<off+(v::vs).length):=by simp;omega
    rw[if_neg h1,if_neg h2,if_neg h]
theorem PT.aI (l:List α) (i:Nat):((PT.leaf:PT α).ofList 0 l).get i=l[i]? := by
 rw[PT.rK]
 by_cases h:i<l.length
 ·simp[h]
 ·simp[h]
end trie
theorem PT.eG {α:Type}:∀ (k:List Bool) (u v:Option α) (t:PT α),(t.cP k u).cP k v=t.cP k v
 | [],u,v,.leaf=>rfl
 | [],u,v,.node _ _ _=>rfl
 |true::k,u,v,.leaf=>by simp[PT.cP,PT.eG k]
 |false::k,u,v,.leaf=>by simp[PT.cP,PT.eG k]
 |true::k,u,v,.node _ _ _=>by simp[PT.cP,PT.eG k]
 |false::k,u,v,.node _ _ _=>by simp[PT.cP,PT.eG k]
theorem PT.jM {α:Type}:∀ (k k':List Bool) (u v:Option α) (t:PT α),k≠k'→(t.cP k u).cP k' v=(t.cP k' v).cP k u
 | [],[],_,_,_,h=>absurd rfl h
 | [],b::k',u,v,.leaf,_=>by cases b<;>simp[PT.cP]
 | [],b::k',u,v,.node _ _ _,_=>by cases b<;>simp[PT.cP]
 |b::k,[],u,v,.leaf,_=>by cases b<;>simp[PT.cP]
 |b::k,[],u,v,.node _ _ _,_=>by cases b<;>simp[PT.cP]
 |true::k,true::k',u,v,.leaf,h=>by simp[PT.cP,PT.jM k k' u v .leaf (fun e=>h (by rw[e]))]
 |false::k,false::k',u,v,.leaf,h=>by simp[PT.cP,PT.jM k k' u v .leaf (fun e=>h (by rw[e]))]
 |true::k,true::k',u,v,.node l x r,h=>by simp[PT.cP,PT.jM k k' u v r (fun e=>h (by rw[e]))]
 |false::k,false::k',u,v,.node l x r,h=>by simp[PT.cP,PT.jM k k' u v l (fun e=>h (by rw[e]))]
 |true::k,false::k',u,v,.leaf,_=>by simp[PT.cP]
 |false::k,true::k',u,v,.leaf,_=>by simp[PT.cP]
 |true::k,false::k',u,v,.node _ _ _,_=>by simp[PT.cP]
 |false::k,true::k',u,v,.node _ _ _,_=>by simp[PT.cP]
theorem PT.set_set {α:Type} (t:PT α) (i:Nat) (u v:Option α):(t.set i u).set i v=t.set i v:=PT.eG _ _ _ _
theorem PT.set_comm {α:Type} (t:PT α) {i j:Nat} (u v:Option α) (h:i≠j):(t.set i u).set j v=(t.set j v).set i u:=PT.jM _ _ _ _ _ fun e=>h (xw e)
theorem PT.nr {α:Type}:∀ (L:List α) (t:PT α) (off i:Nat) (v:Option α),i<off→(PT.ofList t off L).set i v=PT.ofList (t.set i v) off L
 | [],t,off,i,v,h=>rfl
 |x::L,t,off,i,v,h=>by
  rw[PT.ofList,PT.nr L _ _ _ _ (by omega),PT.ofList,PT.set_comm _ _ _ (by omega)]
theorem PT.rN {α:Type}:∀ (L:List α) (t:PT α) (off i:Nat) (v:α),i<L.length→(PT.ofList t off L).set (off+i) (some v)=PT.ofList t off (L.set i v)
 | [],t,off,i,v,h=>by simp at h
 |x::L,t,off,0,v,h=>by
  rw[PT.ofList,PT.nr L _ _ _ _ (by omega),Nat.add_zero,PT.set_set];rfl
 |x::L,t,off,i+1,v,h=>by
  rw[PT.ofList,show off+(i+1)=(off+1)+i by omega,PT.rN L _ _ _ _ (by simpa using h)];rfl
theorem mJ (L:List Value) (i:Nat) (v:Value) (h:i<L.length):(PT.ofList .leaf 0 L).set i (some v)=PT.ofList .leaf 0 (L.set i v):=by
 have:=PT.rN L .leaf 0 i v h
 rwa [Nat.zero_add] at this
structure br where
 blk:Nat→Option (Nat×Nat)
 gG:Nat→Option Nat
structure br.le (Γ aS:br):Prop where
 blk:∀ i x,Γ.blk i=some x→aS.blk i=some x
 gG:∀ b n,Γ.gG b=some n→aS.gG b=some n
theorem br.le.refl (Γ:br):Γ.le Γ:=⟨fun _ _ h=>h,fun _ _ h=>h⟩
theorem br.le.trans {a b c:br} (h:a.le b) (k:b.le c):a.le c:=⟨fun i x e=>k.blk i x (h.blk i x e),fun i x e=>k.gG i x (h.gG i x e)⟩
structure br.addr (Γ:br) (a a':Addr):Prop where
 spot:a.spot=none
 spot':a'.spot=none
 at_:∃ s,Γ.blk a.block=some (a'.block,s)∧a'.off=s+a.off
theorem br.addr.mono {Γ aS:br} (h:Γ.le aS) {a a':Addr} (k:Γ.addr a a'):aS.addr a a':=
 ⟨k.spot,k.spot',let ⟨s,e,o⟩:=k.at_;⟨s,h.blk _ _ e,o⟩⟩
def br.cap (Γ:br) (a':Addr) (n c c':Nat):Prop:=
 if aB≤c then n≤c'∧∃ N,Γ.gG a'.block=some N∧a'.off+c'*(c-aB)≤N else c'=c
theorem br.cap.mono {Γ aS:br} (h:Γ.le aS) {a':Addr} {n c c':Nat} (k:Γ.cap a' n c c'):aS.cap a' n c c':=by
 unfold br.cap at*
 split
 ·rename_i hc;rw[if_pos hc] at k;exact⟨k.1,let ⟨N,e,o⟩:=k.2;⟨N,h.gG _ _ e,o⟩⟩
 ·rename_i hc;rw[if_neg hc] at k;exact k
def br.addr' (Γ:br) (n c:Nat) (a a':Addr):Prop:=
 Γ.addr a a'∨(n=0∧aB≤c∧a'.spot=none∧∃ s,Γ.blk a.block=some (a'.block,s))∨(n=0∧c=0)
theorem br.addr'.mono {Γ aS:br} (h:Γ.le aS) {n c:Nat} {a a':Addr} (k:Γ.addr' n c a a'):aS.addr' n c a a':=
 k.imp (·.mono h) (·.imp (fun ⟨h0,h1,h2,s,h3⟩=>⟨h0,h1,h2,s,h.blk _ _ h3⟩) id)
theorem br.addr'.spot' {Γ:br} {n c:Nat} {a a':Addr} (k:Γ.addr' n c a a') (hc:0<c):a'.spot=none:=by
 rcases k with k |k |k
 ·exact k.spot'
 ·exact k.2.2.1
 ·exact absurd k.2 (by omega)
theorem br.addr'.block {Γ:br} {n c:Nat} {a a':Addr} (k:Γ.addr' n c a a') (hc:0<c):∃ s,Γ.blk a.block=some (a'.block,s):=by
 rcases k with k |k |k
 ·obtain⟨s,e,_⟩:=k.at_;exact⟨s,e⟩
 ·exact k.2.2.2
 ·exact absurd k.2 (by omega)
theorem br.addr'.exact {Γ:br} {n c:Nat} {a a':Addr} (k:Γ.addr' n c a a') (h:0<n∨(¬aB≤c∧0<c)):Γ.addr a a':=by
 rcases k with k |k |k
 ·exact k
 ·rcases h with h |h
  ·exact absurd k.1 (by omega)
  ·exact absurd k.2.1 h.1
 ·rcases h with h |h
  ·exact absurd k.1 (by omega)
  ·exact absurd k.2 (by omega)
inductive rO (Γ:br):Fn→Fn→Prop
 |plain (fn:Fn) (h:∀ l,fn ≠ .yield l):rO Γ fn fn
 |yield (l l':Nat) (h:Γ.blk l=some (l',0)):rO Γ (.yield l) (.yield l')
theorem rO.mono {Γ aS:br} (h:Γ.le aS) {f f':Fn} (k:rO Γ f f'):rO aS f f':=by
 cases k with
 |plain _ hp=>exact .plain _ hp
 |yield l l' hl=>exact .yield l l' (h.blk _ _ hl)
mutual
inductive aA (Γ:br):Value→Value→Prop
 |bool (b:Bool):aA Γ (.bool b) (.bool b)
 |int (k:IntKind) (n:Int):aA Γ (.int k n) (.int k n)
 |float (k:FloatKind) (n:Nat):aA Γ (.float k n) (.float k n)
 |complex (k:FloatKind) (n m:Nat):aA Γ (.complex k n m) (.complex k n m)
 |string (s:ByteArray):aA Γ (.string s) (.string s)
 |eH:aA Γ (.pointer none) (.pointer none)
 |ptr (a a':Addr) (h:Γ.addr a a'):aA Γ (.pointer (some a)) (.pointer (some a'))
 |nilslice (n c:Nat):aA Γ (.slice none n c) (.slice none n c)
 |slice (a a':Addr) (n c c':Nat) (h:Γ.addr' n c a a') (hc:Γ.cap a' n c c'):aA Γ (.slice (some a) n c) (.slice (some a') n c')
 |gK:aA Γ (.map none) (.map none)
 |map (r r':Nat) (h:Γ.blk r=some (r',0)):aA Γ (.map (some r)) (.map (some r'))
 |oq:aA Γ (.chan none) (.chan none)
 |func (fn fn':Fn) (f f' c c':List Value) (hf:aF Γ f f') (hc:aF Γ c c') (hp:rO Γ fn fn'):aA Γ (.func fn ⟨f⟩ ⟨c⟩) (.func fn' ⟨f'⟩ ⟨c'⟩)
 |fC:aA Γ .nilFunc .nilFunc
 |iface (t:TypeId) (v v':Value) (h:aA Γ v v'):aA Γ (.iface t v) (.iface t v')
 |dm:aA Γ .nilIface .nilIface
 |agg (l l':List Value) (h:aF Γ l l'):aA Γ (.agg ⟨l⟩) (.agg ⟨l'⟩)
 |tuple (l l':List Value) (h:aF Γ l l'):aA Γ (.tuple ⟨l⟩) (.tuple ⟨l'⟩)
inductive aF (Γ:br):List Value→List Value→Prop
 |nil:aF Γ [] []
 |cons (v v':Value) (l l':List Value) (h:aA Γ v v') (t:aF Γ l l'):aF Γ (v::l) (v'::l')
end
mutual
theorem aA.mono {Γ aS:br} (h:Γ.le aS):∀ {v v':Value},aA Γ v v'→aA aS v v'
 | _,_,.bool b => .bool b
 | _,_,.int k n => .int k n
 | _,_,.float k n => .float k n
 | _,_,.complex k n m => .complex k n m
 | _,_,.string s => .string s
 | _,_,.eH => .eH
 | _,_,.ptr a a' e => .ptr a a' (e.mono h)
 | _,_,.nilslice n c => .nilslice n c
 | _,_,.slice a a' n c c' e k => .slice a a' n c c' (e.mono h) (k.mono h)
 | _,_,.gK => .gK
 | _,_,.map r r' e => .map r r' (h.blk _ _ e)
 | _,_,.oq => .oq
 | _,_,.func fn fn' f f' c c' e k hp => .func fn fn' f f' c c' (aF.mono h e) (aF.mono h k) (hp.mono h)
 | _,_,.fC => .fC
 | _,_,.iface t v v' e => .iface t v v' (aA.mono h e)
 | _,_,.dm => .dm
 | _,_,.agg l l' e => .agg l l' (aF.mono h e)
 | _,_,.tuple l l' e => .tuple l l' (aF.mono h e)
theorem aF.mono {Γ aS:br} (h:Γ.le aS):∀ {l l':List Value},aF Γ l l'→aF aS l l'
 | _,_,.nil => .nil
 | _,_,.cons v v' l l' e k => .cons v v' l l' (aA.mono h e) (aF.mono h k)
end
theorem aF.length {Γ:br}:∀ {l l':List Value},aF Γ l l'→l'.length=l.length
 | _,_,.nil=>rfl
 | _,_,.cons _ _ _ _ _ t=>by simp[aF.length t]
theorem aF.get {Γ:br}:∀ {l l':List Value} (_:aF Γ l l') {i:Nat} {v:Value},l[i]? = some v→∃ v',l'[i]? = some v'∧aA Γ v v'
 | _,_,.nil,i,v,e=>by simp at e
 | _,_,.cons _ v' _ _ h t,0,v,e=>by simp at e;subst e;exact⟨v',rfl,h⟩
 | _,_,.cons _ _ _ _ h t,i+1,v,e=>by simp at e;simpa using aF.get t e
theorem aF.append {Γ:br}:∀ {l l' m m':List Value},aF Γ l l'→aF Γ m m'→aF Γ (l++m) (l'++m')
 | _,_,_,_,.nil,k=>k
 | _,_,_,_,.cons v v' l l' h t,k => .cons v v' _ _ h (aF.append t k)
theorem aF.take {Γ:br}:∀ {l l':List Value} (n:Nat),aF Γ l l'→aF Γ (l.take n) (l'.take n)
 | _,_,0,_=>by simpa using .nil
 | _,_,n+1,.nil=>by simpa using .nil
 | _,_,n+1,.cons v v' l l' h t=>by simpa using .cons v v' _ _ h (aF.take n t)
theorem aF.drop {Γ:br}:∀ {l l':List Value} (n:Nat),aF Γ l l'→aF Γ (l.drop n) (l'.drop n)
 | _,_,0,h=>by simpa using h
 | _,_,n+1,.nil=>by simpa using .nil
 | _,_,n+1,.cons v v' l l' h t=>by simpa using aF.drop n t
theorem aF.map {Γ:br} {α:Type} {f f':α→Value}:∀ (l:List α),(∀ x∈l,aA Γ (f x) (f' x))→aF Γ (l.map f) (l.map f')
 | [],_ => .nil
 |x::l,h => .cons _ _ _ _ (h x (by simp)) (aF.map l fun y hy=>h y (by simp[hy]))
theorem aF.vA {Γ:br}:∀ (l:List Value),(∀ v∈l,aA Γ v v)→aF Γ l l
 | [],_ => .nil
 |v::l,h => .cons _ _ _ _ (h v (by simp)) (aF.vA l fun y hy=>h y (by simp[hy]))
theorem xx {Γ:br}:∀ (n:Nat) (v:Value),flat n v=true→aA Γ v v:=by
 intro n
 induction n with
 |zero=>
  intro v h
  unfold flat at h
  split at h<;>first
   | (constructor;done)
   | (exact .func _ _ _ _ _ _ .nil .nil (.plain _ (fun _ e=>by cases e)))
   | (rename_i e;exact absurd e (by omega))
   | (exact absurd h (by decide))
 |succ n ih=>
  intro v h
  unfold flat at h
  split at h<;>first
   | (constructor;done)
   | (exact .func _ _ _ _ _ _ .nil .nil (.plain _ (fun _ e=>by cases e)))
   | (rename_i cs e;obtain rfl:=Nat.succ.inj e;obtain⟨l⟩:=cs;exact .agg l l (aF.vA l fun v hv=>ih v (List.all_eq_true.1 h v hv)))
   | (rename_i cs e;obtain rfl:=Nat.succ.inj e;obtain⟨l⟩:=cs;exact .tuple l l (aF.vA l fun v hv=>ih v (List.all_eq_true.1 h v hv)))
   | (rename_i e;obtain rfl:=Nat.succ.inj e;exact .iface _ _ _ (ih _ h))
   | (exact absurd h (by decide))
structure fm (Γ:br) (m:Tm) (tmps:Array Value):Prop where
 size:m.n=tmps.size
 get:∀ i,aA Γ (match m.t.get i with |some v=>v |none => .tuple ⟨[]⟩) (tmps.getD i undef)
theorem fm.mono {Γ aS:br} (h:Γ.le aS) {m:Tm} {tmps:Array Value} (k:fm Γ m tmps):fm aS m tmps:=
 ⟨k.size,fun i=>(k.get i).mono h⟩
end Go.Am
