/-
A part.
-/
import Derived.Test.YtofmbmclopgldaaGreatAmB
import Derived.Below
import Derived.Laws.Cells
import Derived.Laws.Entries
set_option linter.all false
namespace Go.Am
open Go.RowKit
def ofBits:List Bool→Nat
 | []=>0
 |b::k=>2*ofBits k+b.toNat
theorem oE:∀ f n,n≤f→ofBits (bits f n)=n
 |0,n,h=>by
  obtain rfl:n=0:=by omega
  rfl
 |f+1,n,h=>by
  unfold bits;cases hb:Nat.beq n 0 with
  |true=>have:=Nat.eq_of_beq_eq_true hb;simp[ofBits,this]
  |false=>
   have hn:n≠0:=fun e=>by rw[e] at hb;exact Bool.noConfusion hb
   have hd:Nat.div n 2=n/2:=rfl;have hm:Nat.mod n 2=n%2:=rfl;simp only[cond_false,ofBits,hd,hm];rw[oE f (n/2) qJ];cases hq:Nat.beq (n%2) 1 with
   |true=>have:=Nat.eq_of_beq_eq_true hq;simp;omega
   |false=>
    have:n%2≠1:=fun e=>by rw[e] at hq;exact Bool.noConfusion hq
    simp;omega
theorem CZ{n m:Nat}(h:bits n n=bits m m):n=m:=by
 rw[←oE n n (Nat.le_refl _),←oE m m (Nat.le_refl _),h]
section trie
variable {α:Type}
@[simp] theorem PT.JI(k:List Bool):PT.fm k (.leaf:PT α)=none:=by cases k<;>rfl
theorem PT.gC:∀ (k:List Bool) (v:Option α) (t:PT α),(t.dV k v).fm k=v
 | [],v,.leaf=>rfl
 | [],v,.node _ _ _=>rfl
 |true::k,v,.leaf=>by simp[PT.dV,PT.fm,PT.gC k]
 |false::k,v,.leaf=>by simp[PT.dV,PT.fm,PT.gC k]
 |true::k,v,.node _ _ _=>by simp[PT.dV,PT.fm,PT.gC k]
 |false::k,v,.node _ _ _=>by simp[PT.dV,PT.fm,PT.gC k]
theorem PT.iW:∀ (k k':List Bool) (v:Option α) (t:PT α),k≠k'→(t.dV k v).fm k'=t.fm k'
 | [],[],_,_,h=>absurd rfl h
 | [],b::k',v,.leaf,_=>by cases b<;>simp[PT.dV,PT.fm]
 | [],b::k',v,.node _ _ _,_=>by cases b<;>simp[PT.dV,PT.fm]
 |b::k,[],v,.leaf,_=>by cases b<;>simp[PT.dV,PT.fm]
 |b::k,[],v,.node _ _ _,_=>by cases b<;>simp[PT.dV,PT.fm]
 |true::k,true::k',v,.leaf,h=>by simpa [PT.dV,PT.fm] using PT.iW k k' v .leaf (fun e=>h (by rw[e]))
 |false::k,false::k',v,.leaf,h=>by simpa [PT.dV,PT.fm] using PT.iW k k' v .leaf (fun e=>h (by rw[e]))
 |true::k,false::k',v,.leaf,_=>by simp[PT.dV,PT.fm]
 |false::k,true::k',v,.leaf,_=>by simp[PT.dV,PT.fm]
 |true::k,true::k',v,.node _ _ r,h=>by simpa [PT.dV,PT.fm] using PT.iW k k' v r (fun e=>h (by rw[e]))
 |false::k,false::k',v,.node l _ _,h=>by simpa [PT.dV,PT.fm] using PT.iW k k' v l (fun e=>h (by rw[e]))
 |true::k,false::k',v,.node _ _ _,_=>by simp[PT.dV,PT.fm]
 |false::k,true::k',v,.node _ _ _,_=>by simp[PT.dV,PT.fm]
theorem PT.fN(t:PT α)(n:Nat)(v:Option α):(t.set n v).get n=v:=PT.gC _ _ _
theorem PT.cB(t:PT α){n m:Nat}(v:Option α)(h:n≠m):(t.set n v).get m=t.get m:=
 PT.iW _ _ _ _ fun e=>h (CZ e)
theorem PT.bC(t:PT α)(n m:Nat)(v:Option α):(t.set n v).get m=if m=n then v else t.get m:=by
 by_cases h:m=n
 ·subst h;simp[PT.fN]
 ·simp[h,PT.cB t v (Ne.symm h)]
@[simp] theorem PT.acA(n:Nat):(PT.leaf:PT α).get n=none:=PT.JI _
theorem PT.wM:∀ (l:List α) (t:PT α) (off i:Nat),(t.ofList off l).get i=if off≤i∧i<off+l.length then l[i-off]? else t.get i
 | [],t,off,i=>by
  have: ¬ (off≤i∧i<off+0):=by omega
  simp only[PT.ofList,List.length_nil,this,if_false]
 |v::vs,t,off,i=>by
  rw[PT.ofList,PT.wM vs,PT.bC];by_cases h:i=off
  ·subst h;have h1: ¬ (i+1≤i∧i<i+1+vs.length):=by omega
   have h2:i≤i∧i<i+(v::vs).length:=by simp
   rw[if_neg h1,if_pos rfl,if_pos h2];simp
  ·by_cases h1:off+1≤i∧i<off+1+vs.length
   ·have h2:off≤i∧i<off+(v::vs).length:=by simp;omega
    rw[if_pos h1,if_pos h2,show i-off=(i-(off+1))+1 by omega];simp
   ·have h2: ¬ (off≤i∧i<off+(v::vs).length):=by simp;omega
    rw[if_neg h1,if_neg h2,if_neg h]
theorem PT.aQ(l:List α)(i:Nat):((PT.leaf:PT α).ofList 0 l).get i=l[i]? := by
 rw[PT.wM];by_cases h:i<l.length
 ·simp[h]
 ·simp[h]
end trie
theorem PT.gD{α:Type}:∀ (k:List Bool) (u v:Option α) (t:PT α),(t.dV k u).dV k v=t.dV k v
 | [],u,v,.leaf=>rfl
 | [],u,v,.node _ _ _=>rfl
 |true::k,u,v,.leaf=>by simp[PT.dV,PT.gD k]
 |false::k,u,v,.leaf=>by simp[PT.dV,PT.gD k]
 |true::k,u,v,.node _ _ _=>by simp[PT.dV,PT.gD k]
 |false::k,u,v,.node _ _ _=>by simp[PT.dV,PT.gD k]
theorem PT.lX{α:Type}:∀ (k k':List Bool) (u v:Option α) (t:PT α),k≠k'→(t.dV k u).dV k' v=(t.dV k' v).dV k u
 | [],[],_,_,_,h=>absurd rfl h
 | [],b::k',u,v,.leaf,_=>by cases b<;>simp[PT.dV]
 | [],b::k',u,v,.node _ _ _,_=>by cases b<;>simp[PT.dV]
 |b::k,[],u,v,.leaf,_=>by cases b<;>simp[PT.dV]
 |b::k,[],u,v,.node _ _ _,_=>by cases b<;>simp[PT.dV]
 |true::k,true::k',u,v,.leaf,h=>by simp[PT.dV,PT.lX k k' u v .leaf (fun e=>h (by rw[e]))]
 |false::k,false::k',u,v,.leaf,h=>by simp[PT.dV,PT.lX k k' u v .leaf (fun e=>h (by rw[e]))]
 |true::k,true::k',u,v,.node l x r,h=>by simp[PT.dV,PT.lX k k' u v r (fun e=>h (by rw[e]))]
 |false::k,false::k',u,v,.node l x r,h=>by simp[PT.dV,PT.lX k k' u v l (fun e=>h (by rw[e]))]
 |true::k,false::k',u,v,.leaf,_=>by simp[PT.dV]
 |false::k,true::k',u,v,.leaf,_=>by simp[PT.dV]
 |true::k,false::k',u,v,.node _ _ _,_=>by simp[PT.dV]
 |false::k,true::k',u,v,.node _ _ _,_=>by simp[PT.dV]
theorem PT.set_set{α:Type}(t:PT α)(i:Nat)(u v:Option α):(t.set i u).set i v=t.set i v:=PT.gD _ _ _ _
theorem PT.set_comm{α:Type}(t:PT α){i j:Nat}(u v:Option α)(h:i≠j):(t.set i u).set j v=(t.set j v).set i u:=PT.lX _ _ _ _ _ fun e=>h (CZ e)
theorem PT.qD{α:Type}:∀ (L:List α) (t:PT α) (off i:Nat) (v:Option α),i<off→(PT.ofList t off L).set i v=PT.ofList (t.set i v) off L
 | [],t,off,i,v,h=>rfl
 |x::L,t,off,i,v,h=>by
  rw[PT.ofList,PT.qD L _ _ _ _ qJ,PT.ofList,PT.set_comm _ _ _ qJ]
theorem PT.wN{α:Type}:∀ (L:List α) (t:PT α) (off i:Nat) (v:α),i<L.length→(PT.ofList t off L).set (off+i) (some v)=PT.ofList t off (L.set i v)
 | [],t,off,i,v,h=>by simp at h
 |x::L,t,off,0,v,h=>by
  rw[PT.ofList,PT.qD L _ _ _ _ qJ,Nat.add_zero,PT.set_set];rfl
 |x::L,t,off,i+1,v,h=>by
  rw[PT.ofList,show off+(i+1)=(off+1)+i by omega,PT.wN L _ _ _ _ (by simpa using h)];rfl
theorem pY(L:List Value)(i:Nat)(v:Value)(h:i<L.length):(PT.ofList .leaf 0 L).set i (some v)=PT.ofList .leaf 0 (L.set i v):=by
 have:=PT.wN L .leaf 0 i v h
 rwa [Nat.zero_add] at this
structure bL where
 blk:Nat→Option (Nat×Nat)
 jo:Nat→Option Nat
structure bL.le(Γ aY:bL):Prop where
 blk:∀ i x,Γ.blk i=some x→aY.blk i=some x
 jo:∀ b n,Γ.jo b=some n→aY.jo b=some n
theorem bL.le.refl(Γ:bL):Γ.le Γ:=⟨fun _ _ h=>h,fun _ _ h=>h⟩
theorem bL.le.trans{a b c:bL}(h:a.le b)(k:b.le c):a.le c:=⟨fun i x e=>k.blk i x (h.blk i x e),fun i x e=>k.jo i x (h.jo i x e)⟩
structure bL.addr(Γ:bL)(a a':Addr):Prop where
 spot:a.spot=none
 spot':a'.spot=none
 at_:∃ s,Γ.blk a.block=some (a'.block,s)∧a'.off=s+a.off
theorem bL.addr.mono{Γ aY:bL}(h:Γ.le aY){a a':Addr}(k:Γ.addr a a'):aY.addr a a':=
 ⟨k.spot,k.spot',let ⟨s,e,o⟩:=k.at_;⟨s,h.blk _ _ e,o⟩⟩
def bL.cap(Γ:bL)(a':Addr)(n c c':Nat):Prop:=
 if aA≤c then n≤c'∧∃ N,Γ.jo a'.block=some N∧a'.off+c'*(c-aA)≤N else c'=c
theorem bL.cap.mono{Γ aY:bL}(h:Γ.le aY){a':Addr}{n c c':Nat}(k:Γ.cap a' n c c'):aY.cap a' n c c':=by
 unfold bL.cap at*;split
 ·rename_i hc;rw[if_pos hc] at k;exact⟨k.1,let ⟨N,e,o⟩:=k.2;⟨N,h.jo _ _ e,o⟩⟩
 ·rename_i hc;rw[if_neg hc] at k;exact k
def bL.addr'(Γ:bL)(n c:Nat)(a a':Addr):Prop:=
 Γ.addr a a'∨(n=0∧aA≤c∧a'.spot=none∧∃ s,Γ.blk a.block=some (a'.block,s))∨(n=0∧c=0)
theorem bL.addr'.mono{Γ aY:bL}(h:Γ.le aY){n c:Nat}{a a':Addr}(k:Γ.addr' n c a a'):aY.addr' n c a a':=
 k.imp (·.mono h) (·.imp (fun ⟨h0,h1,h2,s,h3⟩=>⟨h0,h1,h2,s,h.blk _ _ h3⟩) id)
theorem bL.addr'.spot'{Γ:bL}{n c:Nat}{a a':Addr}(k:Γ.addr' n c a a')(hc:0<c):a'.spot=none:=by
 rcases k with k |k |k
 ·exact k.spot'
 ·exact k.2.2.1
 ·exact absurd k.2 qJ
theorem bL.addr'.block{Γ:bL}{n c:Nat}{a a':Addr}(k:Γ.addr' n c a a')(hc:0<c):∃ s,Γ.blk a.block=some (a'.block,s):=by
 rcases k with k |k |k
 ·obtain⟨s,e,_⟩:=k.at_;exact⟨s,e⟩
 ·exact k.2.2.2
 ·exact absurd k.2 qJ
theorem bL.addr'.exact{Γ:bL}{n c:Nat}{a a':Addr}(k:Γ.addr' n c a a')(h:0<n∨(¬aA≤c∧0<c)):Γ.addr a a':=by
 rcases k with k |k |k
 ·exact k
 ·rcases h with h |h
  ·exact absurd k.1 qJ
  ·exact absurd k.2.1 h.1
 ·rcases h with h |h
  ·exact absurd k.1 qJ
  ·exact absurd k.2 qJ
inductive wO (Γ:bL):Fn→Fn→Prop
 |plain (fn:Fn) (h:∀ l,fn ≠ .yield l):wO Γ fn fn
 |yield (l l':Nat) (h:Γ.blk l=some (l',0)):wO Γ (.yield l) (.yield l')
theorem wO.mono{Γ aY:bL}(h:Γ.le aY){f f':Fn}(k:wO Γ f f'):wO aY f f':=by
 cases k with
 |plain _ hp=>exact .plain _ hp
 |yield l l' hl=>exact .yield l l' (h.blk _ _ hl)
mutual
inductive aD (Γ:bL):Value→Value→Prop
 |bool (b:Bool):aD Γ (.bool b) (.bool b)
 |int (k:IntKind) (n:Int):aD Γ (.int k n) (.int k n)
 |float (k:FloatKind) (n:Nat):aD Γ (.float k n) (.float k n)
 |complex (k:FloatKind) (n m:Nat):aD Γ (.complex k n m) (.complex k n m)
 |string (s:ByteArray):aD Γ (.string s) (.string s)
 |gE:aD Γ (.pointer none) (.pointer none)
 |ptr (a a':Addr) (h:Γ.addr a a'):aD Γ (.pointer (some a)) (.pointer (some a'))
 |nilslice (n c:Nat):aD Γ (.slice none n c) (.slice none n c)
 |slice (a a':Addr) (n c c':Nat) (h:Γ.addr' n c a a') (hc:Γ.cap a' n c c'):aD Γ (.slice (some a) n c) (.slice (some a') n c')
 |jv:aD Γ (.map none) (.map none)
 |map (r r':Nat) (h:Γ.blk r=some (r',0)):aD Γ (.map (some r)) (.map (some r'))
 |rX:aD Γ (.chan none) (.chan none)
 |func (fn fn':Fn) (f f' c c':List Value) (hf:aM Γ f f') (hc:aM Γ c c') (hp:wO Γ fn fn'):aD Γ (.func fn ⟨f⟩ ⟨c⟩) (.func fn' ⟨f'⟩ ⟨c'⟩)
 |iz:aD Γ .nilFunc .nilFunc
 |iface (t:TypeId) (v v':Value) (h:aD Γ v v'):aD Γ (.iface t v) (.iface t v')
 |eN:aD Γ .nilIface .nilIface
 |agg (l l':List Value) (h:aM Γ l l'):aD Γ (.agg ⟨l⟩) (.agg ⟨l'⟩)
 |tuple (l l':List Value) (h:aM Γ l l'):aD Γ (.tuple ⟨l⟩) (.tuple ⟨l'⟩)
inductive aM (Γ:bL):List Value→List Value→Prop
 |nil:aM Γ [] []
 |cons (v v':Value) (l l':List Value) (h:aD Γ v v') (t:aM Γ l l'):aM Γ (v::l) (v'::l')
end
mutual
theorem aD.mono{Γ aY:bL}(h:Γ.le aY):∀ {v v':Value},aD Γ v v'→aD aY v v'
 | _,_,.bool b => .bool b
 | _,_,.int k n => .int k n
 | _,_,.float k n => .float k n
 | _,_,.complex k n m => .complex k n m
 | _,_,.string s => .string s
 | _,_,.gE => .gE
 | _,_,.ptr a a' e => .ptr a a' (e.mono h)
 | _,_,.nilslice n c => .nilslice n c
 | _,_,.slice a a' n c c' e k => .slice a a' n c c' (e.mono h) (k.mono h)
 | _,_,.jv => .jv
 | _,_,.map r r' e => .map r r' (h.blk _ _ e)
 | _,_,.rX => .rX
 | _,_,.func fn fn' f f' c c' e k hp => .func fn fn' f f' c c' (aM.mono h e) (aM.mono h k) (hp.mono h)
 | _,_,.iz => .iz
 | _,_,.iface t v v' e => .iface t v v' (aD.mono h e)
 | _,_,.eN => .eN
 | _,_,.agg l l' e => .agg l l' (aM.mono h e)
 | _,_,.tuple l l' e => .tuple l l' (aM.mono h e)
theorem aM.mono{Γ aY:bL}(h:Γ.le aY):∀ {l l':List Value},aM Γ l l'→aM aY l l'
 | _,_,.nil => .nil
 | _,_,.cons v v' l l' e k => .cons v v' l l' (aD.mono h e) (aM.mono h k)
end
theorem aM.length{Γ:bL}:∀ {l l':List Value},aM Γ l l'→l'.length=l.length
 | _,_,.nil=>rfl
 | _,_,.cons _ _ _ _ _ t=>by simp[aM.length t]
theorem aM.get{Γ:bL}:∀ {l l':List Value} (_:aM Γ l l') {i:Nat} {v:Value},l[i]? = some v→∃ v',l'[i]? = some v'∧aD Γ v v'
 | _,_,.nil,i,v,e=>by simp at e
 | _,_,.cons _ v' _ _ h t,0,v,e=>by simp at e;subst e;exact⟨v',rfl,h⟩
 | _,_,.cons _ _ _ _ h t,i+1,v,e=>by simp at e;simpa using aM.get t e
theorem aM.append{Γ:bL}:∀ {l l' m m':List Value},aM Γ l l'→aM Γ m m'→aM Γ (l++m) (l'++m')
 | _,_,_,_,.nil,k=>k
 | _,_,_,_,.cons v v' l l' h t,k => .cons v v' _ _ h (aM.append t k)
theorem aM.take{Γ:bL}:∀ {l l':List Value} (n:Nat),aM Γ l l'→aM Γ (l.take n) (l'.take n)
 | _,_,0,_=>by simpa using .nil
 | _,_,n+1,.nil=>by simpa using .nil
 | _,_,n+1,.cons v v' l l' h t=>by simpa using .cons v v' _ _ h (aM.take n t)
theorem aM.drop{Γ:bL}:∀ {l l':List Value} (n:Nat),aM Γ l l'→aM Γ (l.drop n) (l'.drop n)
 | _,_,0,h=>by simpa using h
 | _,_,n+1,.nil=>by simpa using .nil
 | _,_,n+1,.cons v v' l l' h t=>by simpa using aM.drop n t
theorem aM.map{Γ:bL}{α:Type}{f f':α→Value}:∀ (l:List α),(∀ x∈l,aD Γ (f x) (f' x))→aM Γ (l.map f) (l.map f')
 | [],_ => .nil
 |x::l,h => .cons _ _ _ _ (h x (by simp)) (aM.map l fun y hy=>h y (by simp[hy]))
theorem aM.Bd{Γ:bL}:∀ (l:List Value),(∀ v∈l,aD Γ v v)→aM Γ l l
 | [],_ => .nil
 |v::l,h => .cons _ _ _ _ (h v (by simp)) (aM.Bd l fun y hy=>h y (by simp[hy]))
theorem C_{Γ:bL}:∀ (n:Nat) (v:Value),flat n v=true→aD Γ v v:=by
 intro n
 induction n with
 |zero=>
  intro v h;unfold flat at h;split at h<;>first
   | (constructor;done)
   | (exact .func _ _ _ _ _ _ .nil .nil (.plain _ (fun _ e=>by cases e)))
   | (rename_i e;exact absurd e qJ)
   | (exact absurd h qi)
 |succ n ih=>
  intro v h;unfold flat at h;split at h<;>first
   | (constructor;done)
   | (exact .func _ _ _ _ _ _ .nil .nil (.plain _ (fun _ e=>by cases e)))
   | (rename_i cs e;obtain rfl:=Nat.succ.inj e;obtain⟨l⟩:=cs;exact .agg l l (aM.Bd l fun v hv=>ih v (List.all_eq_true.1 h v hv)))
   | (rename_i cs e;obtain rfl:=Nat.succ.inj e;obtain⟨l⟩:=cs;exact .tuple l l (aM.Bd l fun v hv=>ih v (List.all_eq_true.1 h v hv)))
   | (rename_i e;obtain rfl:=Nat.succ.inj e;exact .iface _ _ _ (ih _ h))
   | (exact absurd h qi)
structure ij(Γ:bL)(m:Tm)(tmps:Array Value):Prop where
 size:m.n=tmps.size
 get:∀ i,aD Γ (match m.t.get i with |some v=>v |none => .tuple ⟨[]⟩) (tmps.getD i undef)
theorem ij.mono{Γ aY:bL}(h:Γ.le aY){m:Tm}{tmps:Array Value}(k:ij Γ m tmps):ij aY m tmps:=
 ⟨k.size,fun i=>(k.get i).mono h⟩
end Go.Am
