/-
A part.
-/
import Derived.Test.YtofmbmclopgldaaGreatBV
set_option linter.all false
namespace Go.Proofs.YtofmbmclopgldaaGreat
open Go.Am
variable {O:Over}
end Go.Proofs.YtofmbmclopgldaaGreat
namespace Go.Proofs.YtofmbmclopgldaaGreat
open Go.Am
def fl(o:Nat→Option Bool)(rt:Bool)(L:List Int):List Int:=L.filter fun t=>decide (o t.toNat=some rt)
theorem rJ{x:Int}{e:cK}:∀ (l:List cK) (i:Nat),bW x (l++[e]) i=match bW x l i with |some r=>some r |none=>if x=e.1 then some (i+l.length,e.2.1) else none
 | [],i=>by
  rw[List.nil_append,bW,bW];simp only[List.length_nil,Nat.add_zero];split<;>rfl
 |a::l,i=>by
  rw[List.cons_append,bW,bW,rJ l (i+1)];by_cases c:x=a.1
  ·rw[if_pos c,if_pos c]
  ·rw[if_neg c,if_neg c];rw[show i+1+l.length=i+(a::l).length by rw[List.length_cons];omega]
theorem tC{x t:Int}{v w:Value}{c:Nat}(hx:x≠t):∀ (l:List cK) (i j:Nat),l[j]? = some (t,w,c)→bW x (l.set j (t,v,c)) i=bW x l i
 | [],_,_,h=>by simp at h
 |a::l,i,0,h=>by
  simp only[List.getElem?_cons_zero,Option.some.injEq] at h;subst h;rw[List.set_cons_zero,bW,bW,if_neg hx,if_neg hx]
 |a::l,i,j+1,h=>by
  rw[List.set_cons_succ,bW,bW,tC hx l (i+1) j (by simpa using h)]
theorem tD{t:Int}{v w:Value}{c:Nat}:∀ (l:List cK) (i j:Nat),bW t l i=some (i+j,w)→l[j]? = some (t,w,c)→bW t (l.set j (t,v,c)) i=some (i+j,v)
 | [],_,_,h,_=>by simp[bW] at h
 |a::l,i,0,h,h2=>by
  rw[List.set_cons_zero,bW,if_pos rfl];rfl
 |a::l,i,j+1,h,h2=>by
  rw[bW] at h;split at h
  ·simp only[Option.some.injEq,Prod.mk.injEq] at h;have:=h.1;omega
  ·rename_i q;rw[List.set_cons_succ,bW,if_neg q];have:=tD (v:=v) l (i+1) j (by rw[h,show i+(j+1)=i+1+j by omega]) (by simpa using h2);rw[this,show i+(j+1)=i+1+j by omega]
theorem EK{R:List cK}{rk t:Nat}{v:Value}:∃ i,bW (t:Int) (uy R rk t v).1 0=some (i,v):=by
 unfold uy;cases hf:bW (t:Int) R 0 with
 |none=>exact⟨R.length,by simp only[rJ,hf,if_pos];simp⟩
 |some iv=>
  obtain⟨i,w⟩:=iv;obtain⟨c,hc⟩:=yV hf;simp only[hc];exact⟨i,by have:=tD (v:=v) R 0 i (by rw[hf];simp) hc;rw[this];simp⟩
theorem Ct{R:List cK}{rk t:Nat}{v:Value}{x:Int}(hx:x≠t):bW x (uy R rk t v).1 0=bW x R 0:=by
 unfold uy;cases hf:bW (t:Int) R 0 with
 |none=>
  simp only[rJ,if_neg hx];cases bW x R 0<;>rfl
 |some iv=>
  obtain⟨i,w⟩:=iv;obtain⟨c,hc⟩:=yV hf;simp only[hc];exact tC hx R 0 i hc
def ko(k:Int):Option Bool:=if k=2 then some false else if k=3 then some true else none
structure Ri(n:Nat)(H:List Int)(stk:Nat→List Nat)(X:List cK)(xk:Nat)(G:List Int)(R:List cK)(K:List Int)(b:Int):Prop where
 UY:K.length=n+1
 k0:K.getD 0 0=0
 kv:∀ u,0≤K.getD u 0∧K.getD u 0≤3
 n1:n≤1024
 UZ:G.length=n
 free:∀ j t,j<6→t∈stk j→K.getD t 0=0
 ox:oh X xk
 out:∀ x,(∃ e∈X,e.1=x)↔∃ u:Nat,x=u∧1≤u∧u≤n∧K.getD u 0≠0
 gb:∀ u,0≤G.getD u 0∧G.getD u 0≤b
 rs:∀ u,1≤u→u≤n→Rs R u (G.getD (u-1) 0) (ko (K.getD u 0))
 rb:∀ u i v,1≤u→u≤n→bW ((u:Nat):Int) R 0=some (i,v)→∃ g r,v = .agg ⟨[.int .i64 g,.bool r]⟩∧g≤G.getD (u-1) 0
section
variable {n xk:Nat} {H G K:List Int} {stk:Nat→List Nat} {X R:List cK} {b:Int}
theorem eX{L:List Int}{i j:Nat}{x:Int}(hi:i<L.length):(L.set i x).getD j 0=if j=i then x else L.getD j 0:=by
 simp only[List.getD];by_cases c:j=i
 ·subst c;rw[if_pos rfl,List.getElem?_set_self hi];rfl
 ·rw[if_neg c,List.getElem?_set_ne (Ne.symm c)]
theorem Ri.take(I:Ri n H stk X xk G R K b){j a:Nat}{r:List Nat}(hj:j<6)(he:stk j=a::r)(ha:1≤a∧a≤n)(hnd:∀ k,k<6→(stk k).Nodup)(XT:∀ k t,k<6→t∈stk k→t=a→k=j):
  Ri n H (up1 stk j r) (X++[((a:Int),.bool false,xk)]) (xk+1) G R (K.set a 1) b:=by
 have hK0:=I.free j a hj (by rw[he];simp);have hlt:a<K.length:=by rw[I.UY];omega
 have hna:∀ e∈X,e.1≠(a:Int):=fun e hm c=>by
  obtain⟨u,hu,_,_,h4⟩:=(I.out a).1 ⟨e,hm,c⟩;have:u=a:=by omega
  subst this;exact h4 hK0
 have Qg:∀ u,ko ((K.set a 1).getD u 0)=ko (K.getD u 0):=fun u=>by
  rw[eX hlt];split
  ·rename_i c;rw[c,hK0];rfl
  ·rfl
 refine⟨by rw[List.length_set];exact I.UY,by rw[eX hlt,if_neg qJ];exact I.k0,fun u=>?_,I.n1,I.UZ,fun k t hk ht=>?_,?_,fun x=>?_,I.gb,fun u h1 h2=>by rw[Qg];exact I.rs u h1 h2,I.rb⟩
 ·rw[eX hlt];split
  ·omega
  ·exact I.kv u
 ·rw[eX hlt];by_cases c:k=j
  ·subst c;rw[jU] at ht;have:=hnd k hk;rw[he] at this;rw[if_neg fun q:t=a=>(List.nodup_cons.1 this).1 (by rw[←q];exact ht)];exact I.free k t hk (by rw[he];simp[ht])
  ·rw[pM c] at ht;rw[if_neg fun q=>c (XT k t hk ht q)];exact I.free k t hk ht
 ·obtain⟨o1,o2,o3,o4,o5⟩:=I.ox;refine⟨fun e hm=>?_,?_,fun e hm=>?_,fun e hm=>?_,?_⟩
  ·rcases List.mem_append.1 hm with q |q
   ·exact o1 e q
   ·rw[List.mem_singleton.1 q]
  ·rw[List.map_append,List.map_singleton,List.nodup_append];refine⟨o2,by simp,fun x hx y hy=>?_⟩;obtain⟨e,hm,rfl⟩:=List.mem_map.1 hx;rw[List.mem_singleton] at hy;rw[hy];exact hna e hm
  ·rcases List.mem_append.1 hm with q |q
   ·exact o3 e q
   ·rw[List.mem_singleton.1 q];have:=I.n1;exact⟨by omega,by show (a:Int)≤1024;omega⟩
  ·rcases List.mem_append.1 hm with q |q
   ·have:=o4 e q;omega
   ·rw[List.mem_singleton.1 q];exact Nat.lt_succ_self _
  ·rw[List.map_append,List.map_singleton,List.nodup_append];refine⟨o5,by simp,fun x hx y hy=>?_⟩;obtain⟨e,hm,rfl⟩:=List.mem_map.1 hx;have hy:y=xk:=List.mem_singleton.1 hy;have:=o4 e hm;omega
 ·constructor
  ·rintro ⟨e,hm,rfl⟩
   rcases List.mem_append.1 hm with q |q
   ·obtain⟨u,h1,h2,h3,h4⟩:=(I.out e.1).1 ⟨e,q,rfl⟩;refine⟨u,h1,h2,h3,?_⟩;rw[eX hlt];split
    ·omega
    ·exact h4
   ·rw[List.mem_singleton.1 q];exact⟨a,rfl,ha.1,ha.2,by rw[eX hlt,if_pos rfl];decide⟩
  ·rintro ⟨u,rfl,h2,h3,h4⟩;by_cases c:u=a
   ·subst c;exact⟨_,List.mem_append_right _ (List.mem_singleton.2 rfl),rfl⟩
   ·rw[eX hlt,if_neg c] at h4;obtain⟨e,hm,q⟩:=(I.out u).2 ⟨u,rfl,h2,h3,h4⟩;exact⟨e,List.mem_append_left _ hm,q⟩
theorem Ri.put(I:Ri n H stk X xk G R K b){t rk:Nat}{k:Int}{q:Bool}(ht:1≤t∧t≤n)(hK:K.getD t 0≠0)(hk:ko k=some q)(hk3:1≤k∧k≤3):
  Ri n H stk X xk G (uy R rk t (.agg ⟨[.int .i64 (G.getD (t-1) 0),.bool q]⟩)).1 (K.set t k) b:=by
 have hlt:t<K.length:=by rw[I.UY];omega
 refine⟨by rw[List.length_set];exact I.UY,by rw[eX hlt,if_neg qJ];exact I.k0,fun u=>?_,I.n1,I.UZ,fun j a hj ha=>?_,I.ox,fun x=>?_,I.gb,fun u h1 h2=>?_,fun u i v h1 h2 hf=>?_⟩
 ·rw[eX hlt];split
  ·omega
  ·exact I.kv u
 ·have:=I.free j a hj ha;rw[eX hlt,if_neg fun c:a=t=>hK (by rw[←c];exact this)];exact this
 ·rw[I.out x];constructor
  ·rintro ⟨u,h1,h2,h3,h4⟩;refine⟨u,h1,h2,h3,?_⟩;rw[eX hlt];split
   ·omega
   ·exact h4
  ·rintro ⟨u,h1,h2,h3,h4⟩;refine⟨u,h1,h2,h3,?_⟩;rw[eX hlt] at h4;split at h4
   ·rename_i c;rw[c];exact hK
   ·exact h4
 ·by_cases c:u=t
  ·subst c;rw[eX hlt,if_pos rfl,hk];exact EK
  ·rw[eX hlt,if_neg c];have:=I.rs u h1 h2;cases ho:ko (K.getD u 0) with
   |none=>
    rw[ho] at this
    rcases this with e | ⟨i,g,r,e,e2⟩
    ·exact .inl (by rw[Ct qJ];exact e)
    ·exact .inr ⟨i,g,r,by rw[Ct qJ];exact e,e2⟩
   |some q'=>
    rw[ho] at this;obtain⟨i,e⟩:=this;exact⟨i,by rw[Ct qJ];exact e⟩
 ·by_cases c:u=t
  ·subst c;obtain⟨i',e⟩:=EK (R:=R) (rk:=rk) (t:=u) (v := .agg ⟨[.int .i64 (G.getD (u-1) 0),.bool q]⟩);rw[e] at hf;simp only[Option.some.injEq,Prod.mk.injEq] at hf;exact⟨_,_,hf.2.symm,Int.le_refl _⟩
  ·rw[Ct qJ] at hf;exact I.rb u i v h1 h2 hf
end
end Go.Proofs.YtofmbmclopgldaaGreat
namespace Go.Proofs.YtofmbmclopgldaaGreat
open Go.Am
section
variable {h1 h h':PT aj} {n1 n n' lb:Nat} {l:dg} {mk ev:Value} {p5 p6:Nat} {W:List Int} {stk:Nat→List Nat} {tag:Nat→Int} {X:List cK} {xk:Nat} {G:List Int} {R:List cK} {rk k:Nat} {d d':Rl→Nat} {C C':Rl→Option aj} {Y:List Nat} {K:List Int} {b:Int}
end
section
variable {h1 h:PT aj} {n1 n lb:Nat} {l:dg} {mk ev:Value} {p5 p6 k:Nat} {d:Rl→Nat} {C:Rl→Option aj} {K:List Int} {b:Int}
end
end Go.Proofs.YtofmbmclopgldaaGreat
namespace Go.Proofs.YtofmbmclopgldaaGreat
open Go.Am
variable {O:Over}
end Go.Proofs.YtofmbmclopgldaaGreat
