/-
  A part of the proof: contracts of inner functions.
-/
import Derived.Test.YtofmbmclopgldaaGreatAmW
set_option linter.unusedSimpArgs false
set_option linter.unusedVariables false
namespace Go.Am
section
variable {P:Program} {O:Over}
def sJ (ev ev':fU):Prop:=∀ ro lim c m s x s',ev ro lim c m s = .ok x s'→ev' ro lim c m s = .ok x s'
theorem sJ.refl (ev:fU):sJ ev ev:=fun _ _ _ _ _ _ _ h=>h
theorem sJ.trans {a b c:fU} (h:sJ a b) (k:sJ b c):sJ a c:=fun _ _ _ _ _ _ _ e=>k _ _ _ _ _ _ _ (h _ _ _ _ _ _ _ e)
theorem bM {α β:Type} {r r':aH α} {k k':α→HS→aH β} {b:β} {s':HS} (hr:∀ a s,r = .ok a s→r' = .ok a s) (hk:∀ a s,r = .ok a s→∀ b s',k a s = .ok b s'→k' a s = .ok b s') (h:bH r k = .ok b s'):bH r' k' = .ok b s':=by
 obtain⟨a,s,e,e'⟩:=bq h
 rw[hr a s e]
 exact hk a s e b s' e'
variable {ev ev':fU} (h:sJ ev ev')
include h
theorem mO {lim:Nat} {f:FuncId} {args:List Value} {s s':HS} {v:Value} (e:fk P ev lim f args s = .ok v s'):fk P ev' lim f args s = .ok v s':=by
 unfold fk at e ⊢
 cases hf:P.funcs[f]? with
 |none=>rw[hf] at e;simp at e
 |some fn=>
  rw[hf] at e
  simp only at e ⊢
  cases hb:fn.body with
  |none=>rw[hb] at e;simp at e
  |some c=>
   rw[hb] at e
   simp only at e ⊢
   exact bM (fun a s q=>h _ _ _ _ _ _ _ q) (fun a s _ b s' q=>q) e
theorem uK {lim:Nat} {f:FuncId} {args:List Value} {s s':HS} {v:Value} (e:eB P O ev lim f args s = .ok v s'):eB P O ev' lim f args s = .ok v s':=by
 unfold eB at e ⊢
 cases hO:O f args with
 |none=>rw[hO] at e;exact mO h e
 |some m=>rw[hO] at e;exact e
theorem Az {lim l:Nat} {m:Tm} {as bd:Code} {s s':HS} {v:Value} (e:fN ev lim l m as bd s = .ok v s'):fN ev' lim l m as bd s = .ok v s':=by
 unfold fN at e ⊢
 refine bM (fun a s q=>h _ _ _ _ _ _ _ q) (fun a s _ b s' q=>?_) e
 cases hx:a.1 with
 |exit id=>simp[hx] at q
 |ret=>simp[hx] at q
 |normal=>
  simp only[hx] at q ⊢
  exact bM (fun _ _ q=>q) (fun a s _ b s' q=>bM (fun a s q=>h _ _ _ _ _ _ _ q) (fun _ _ _ _ _ q=>q) q) q
theorem C_ {lim:Nat} {x:aD} {s s':HS} {v:Value} (e:eC P O ev lim x s = .ok v s'):eC P O ev' lim x s = .ok v s':=by
 cases x with
 |value v=>exact e
 |skip=>exact e
 |enter f args=>exact uK h e
 |round l m as bd=>exact Az h e
theorem E3 {lim:Nat} {ρ:Operand→Value} {o:Oper} {s s':HS} {v:Value} (e:iE P O ev lim ρ o s = .ok v s'):iE P O ev' lim ρ o s = .ok v s':=by
 unfold iE at e ⊢
 cases hc:o.op.operands.toList.all aX with
 |false=>rw[hc] at e;simp at e
 |true=>
  rw[hc] at e
  simp only[cond_true] at e ⊢
  exact bM (fun _ _ q=>q) (fun a s _ b s' q=>C_ h q) e
theorem BS {lim:Nat} {ops:List Oper} {o:Oper} {m m':Tm} {s s':HS} (e:kS P O ev lim ops o m s = .ok m' s'):kS P O ev' lim ops o m s = .ok m' s':=by
 unfold kS at e ⊢
 refine bM (fun a s q=>?_) (fun _ _ _ _ _ q=>q) e
 cases hw:bJ ops m o with
 |true=>rw[hw] at q;exact E3 h q
 |false=>rw[hw] at q;exact q
theorem sK {lim:Nat} {ops:List Oper}:∀ (r:List Oper) {m m':Tm} {s s':HS},gX P O ev lim ops r m s = .ok m' s'→gX P O ev' lim ops r m s = .ok m' s'
 | [],_,_,_,_,e=>e
 |o::r,m,m',s,s',e=>by
  unfold gX at e ⊢
  exact bM (fun a s q=>BS h q) (fun a s _ b s' q=>sK r q) e
theorem uL {ops:List Oper}:∀ (r:List Oper) {m:Tm} {H:PT ak} {n:Nat} {x:Tm×List bD} {s':HS},gY P O ev ops r m H n = .ok x s'→gY P O ev' ops r m H n = .ok x s'
 | [],_,_,_,_,_,e=>e
 |o::r,m,H,n,x,s',e=>by
  unfold gY at e ⊢
  exact bM (fun a s q=>BS h q) (fun a s _ b s' q=>bM (fun _ _ q=>uL r q) (fun _ _ _ _ _ q=>q) q) e
theorem Da {lim:Nat} {ops:List Oper} {m m':Tm} {s s':HS} (e:eD P O ev lim ops m s = .ok m' s'):eD P O ev' lim ops m s = .ok m' s':=by
 unfold eD at e ⊢
 cases hd:fO ops (aL (aO [] ops) ops.length) with
 |false=>rw[hd] at e;simp at e
 |true=>
  rw[hd] at e
  simp only[cond_true] at e ⊢
  exact bM (fun _ _ q=>uL h ops q) (fun _ _ _ _ _ q=>q) e
theorem AA {ro:Option Nat} {lim:Nat} {g:Operand} {ps:List Tmp} {as bd:Code} {m:Tm} {s s':HS} {x:aV×Tm} (e:eE P O ev ro lim g ps as bd m s = .ok x s'):eE P O ev' ro lim g ps as bd m s = .ok x s':=by
 unfold eE at e ⊢
 cases hg:aX g with
 |false=>rw[hg] at e;simp at e
 |true=>
  rw[hg] at e
  simp only[cond_true] at e ⊢
  exact bM (fun _ _ q=>q) (fun _ _ _ _ _ q=>bM (fun _ _ q=>q) (fun _ _ _ _ _ q=>bM (fun _ _ q=>uK h q) (fun _ _ _ _ _ q=>q) q) q) e
theorem Db:sJ (aY P O ev) (aY P O ev'):=by
 intro ro lim c m s x s' e
 cases c with
 |skip=>exact e
 |label l=>exact e
 |region id ops draw=>
  simp only[aY] at e ⊢
  refine bM (fun a s q=>?_) (fun _ _ _ _ _ q=>q) e
  cases draw with
  |true=>exact Da h q
  |false=>exact sK h _ q
 |seq a b=>
  simp only[aY] at e ⊢
  refine bM (fun _ _ q=>h _ _ _ _ _ _ _ q) (fun a s _ b s' q=>?_) e
  cases hx:a.1 with
  |normal=>simp only[hx] at q ⊢;exact h _ _ _ _ _ _ _ q
  |exit i=>simp only[hx] at q ⊢;exact q
  |ret=>simp only[hx] at q ⊢;exact q
 |cond c a b=>
  simp only[aY] at e ⊢
  cases hg:aX c with
  |false=>rw[hg] at e;simp at e
  |true=>
   rw[hg] at e
   simp only[cond_true] at e ⊢
   generalize m.eval c=z at e ⊢
   cases z with
   |bool t=>cases t<;>exact h _ _ _ _ _ _ _ e
   | _=>simp at e
 |block id c=>
  simp only[aY] at e ⊢
  exact bM (fun _ _ q=>h _ _ _ _ _ _ _ q) (fun _ _ _ _ _ q=>q) e
 |loop c=>
  simp only[aY] at e ⊢
  refine bM (fun _ _ q=>h _ _ _ _ _ _ _ q) (fun a s _ b s' q=>?_) e
  cases hx:a.1 with
  |normal=>simp only[hx] at q ⊢;exact h _ _ _ _ _ _ _ q
  |exit i=>simp only[hx] at q ⊢;exact q
  |ret=>simp only[hx] at q ⊢;exact q
 |exit id=>exact e
 |scope c=>exact h _ _ _ _ _ _ _ e
 |ret=>exact e
 |rangeFunc g ps as bd=>exact AA h e
 |goto l=>simp[aY] at e
 |refuse w=>simp[aY] at e
omit h
theorem cC (k:Nat):jW P O (k+1)=aY P O (jW P O k):=rfl
theorem uM:∀ k,sJ (jW P O k) (jW P O (k+1))
 |0=>fun ro lim c m s x s' e=>by
  have e:(aH.fail "fuel":aH (aV×Tm)) = .ok x s':=e
  simp at e
 |k+1=>Db (uM k)
theorem ia {k k':Nat} (hk:k≤k'):sJ (jW P O k) (jW P O k'):=by
 induction k' with
 |zero=>
  obtain rfl:k=0:=by omega
  exact .refl _
 |succ j ih=>
  by_cases hj:k≤j
  ·exact(ih hj).trans (uM j)
  ·obtain rfl:k=j+1:=by omega
   exact .refl _
end
end Go.Am
set_option linter.unusedSimpArgs false
set_option linter.unusedVariables false
namespace Go.Am
def S0 (h:PT ak) (n:Nat):HS:=⟨h,n,[],[]⟩
inductive KF where
 |seq (c:Code)
 |block (id:Nat)
 |loop (c:Code)
structure Zx where
 P:Program
 O:Over
 ro:Option Nat
 N:Nat
 Q:aV→Tm→PT ak→Nat→Prop
def Ev (z:Zx) (c:Code) (m:Tm) (h:PT ak) (n:Nat) (R:aV→Tm→PT ak→Nat→Prop):Prop:=
 m.n=z.N∧∃ k x h' n',jW z.P z.O k z.ro 0 c m (S0 h n) = .ok x (S0 h' n')∧R x.1 x.2 h' n'
def Rs (z:Zx):List KF→aV→Tm→PT ak→Nat→Prop
 | [],e,m,h,n=>m.n=z.N∧z.Q e m h n
 | .seq c::K,e,m,h,n=>match e with
  | .normal=>Ev z c m h n (Rs z K)
  | _=>Rs z K e m h n
 | .block id::K,e,m,h,n=>match e with
  | .exit i=>Rs z K (cond (Nat.beq i id) .normal (.exit i)) m h n
  | _=>Rs z K e m h n
 | .loop c::K,e,m,h,n=>match e with
  | .normal=>Ev z (.loop c) m h n (Rs z K)
  | _=>Rs z K e m h n
def fJ (z:Zx) (c:Code) (K:List KF) (m:Tm) (h:PT ak) (n:Nat):Prop:=Ev z c m h n (Rs z K)
def Iw (z:Zx) (ops r:List Oper) (K:List KF) (m:Tm) (h:PT ak) (n:Nat):Prop:=
 m.n=z.N∧∃ k m' h' n',gX z.P z.O (jW z.P z.O k) 0 ops r m (S0 h n) = .ok m' (S0 h' n')∧Rs z K .normal m' h' n'
def jE (z:Zx) (p:AP aD) (d:Option Nat) (ops r:List Oper) (K:List KF) (m:Tm) (h:PT ak) (n:Nat):Prop:=
 m.n=z.N∧∃ k m' h' n',bH (p.run 0 (S0 h n)) (fun x s=>bH (eC z.P z.O (jW z.P z.O k) 0 x s) fun v s=>bH (iF m d v s) fun m s=>gX z.P z.O (jW z.P z.O k) 0 ops r m s) = .ok m' (S0 h' n')∧Rs z K .normal m' h' n'
theorem aM {α β:Type} (a:α) (s:HS) (k:α→HS→aH β):bH (.ok a s) k=k a s:=rfl
theorem eP {α β γ:Type} (r:aH α) (f:α→HS→aH β) (g:β→HS→aH γ):bH (bH r f) g=bH r fun a s=>bH (f a s) g:=by cases r<;>rfl
theorem E4 {α:Type}:∀ (p:AP α) (h:PT ak) (n:Nat) (a:α) (s:HS),p.run 0 (S0 h n) = .ok a s→s=S0 s.heap s.next
 | .pure a,h,n,b,s,e=>by simp only[AP.run,aH.ok.injEq] at e;rw[←e.2];rfl
 | .fail w,h,n,b,s,e=>by simp[AP.run] at e
 | .get id k,h,n,b,s,e=>by
  simp only[AP.run] at e
  split at e
  ·simp at e
  ·exact E4 _ _ _ _ _ e
 | .set id B k,h,n,b,s,e=>by
  simp only[AP.run] at e
  split at e
  ·simp at e
  ·exact E4 k (h.set id (some B)) n b s e
 | .kill id k,h,n,b,s,e=>by
  simp only[AP.run] at e
  split at e
  ·simp at e
  ·exact E4 k (h.set id none) n b s e
 | .new B k,h,n,b,s,e=>by
  simp only[AP.run] at e
  exact E4 (k n) (h.set n (some B)) (n+1) b s e
section
variable {P:Program} {O:Over}
def Q0 {α:Type} (F:HS→aH α):Prop:=∀ h n a s,F (S0 h n) = .ok a s→s=S0 s.heap s.next
theorem Q0.bH {α β:Type} {F:HS→aH α} {k:α→HS→aH β} (hF:Q0 F) (hk:∀ a,Q0 (k a)):Q0 (fun s=>bH (F s) k):=by
 intro h n b s e
 obtain⟨a,s₁,e₁,e₂⟩:=bq e
 have:=hF _ _ _ _ e₁
 rw[this] at e₂
 exact hk _ _ _ _ _ e₂
theorem Q0.ap {α:Type} (p:AP α):Q0 (fun s=>p.run 0 s):=fun h n a s e=>E4 p h n a s e
theorem Q0.ok {α:Type} (a:α):Q0 (fun s => .ok a s):=fun h n b s e=>by simp only[aH.ok.injEq] at e;rw[←e.2];rfl
theorem Q0.fail {α:Type} (w:String):Q0 (fun _=>(.fail w:aH α)):=fun h n b s e=>by simp at e
def E5 (ev:fU):Prop:=∀ ro c m,Q0 (fun s=>ev ro 0 c m s)
variable {ev:fU}
theorem nS:∀ l,Q0 (dO 0 l)
 | [] => .ok _
 |d::r=>(Q0.ap (mI d)).bH fun _=>nS r
theorem kr (m:Tm):∀ l,Q0 (b8 P 0 m l)
 | [] => .ok _
 | .tmp t::r=>(kr m r).bH fun l => .ok (m.get t::l)
 | .cell a t::r=>(Q0.ap (dX P t (m.get a))).bH fun v=>(kr m r).bH fun l => .ok (v::l)
theorem E6 (rs:List ResultVar) (x:aV×Tm):Q0 (gI P 0 rs x):=by
 unfold gI
 cases x.1 with
 |exit id=>exact .fail _
 |normal=>exact(nS _).bH fun _=>(kr _ _).bH fun _ => .ok _
 |ret=>exact(nS _).bH fun _=>(kr _ _).bH fun _ => .ok _
theorem Jm (h:E5 ev) (f:FuncId) (args:List Value):Q0 (fk P ev 0 f args):=by
 unfold fk
 cases P.funcs[f]? with
 |none=>exact .fail _
 |some fn=>
  simp only
  cases fn.body with
  |none=>exact .fail _
  |some c=>exact(h _ _ _).bH fun _=>E6 _ _
theorem BT (h:E5 ev) (f:FuncId) (args:List Value):Q0 (eB P O ev 0 f args):=by
 unfold eB
 cases O f args with
 |none=>exact Jm h f args
 |some m=>exact Q0.ap m
theorem E7 (h:E5 ev) (l:Nat) (m:Tm) (as bd:Code):Q0 (fN ev 0 l m as bd):=by
 unfold fN
 refine(h _ _ _).bH fun x=>?_
 cases x.1 with
 |normal=>exact(Q0.ap _).bH fun _=>(h _ _ _).bH fun _=>Q0.ap _
 |exit i=>exact .fail _
 |ret=>exact .fail _
theorem Jn (h:E5 ev) (x:aD):Q0 (eC P O ev 0 x):=by
 cases x with
 |value v=>exact .ok _
 |skip=>exact .ok _
 |enter f args=>exact BT h f args
 |round l m as bd=>exact E7 h l m as bd
theorem Nq (m:Tm) (d:Option Nat) (v:Value):Q0 (iF m d v):=by
 unfold iF
 cases m.put d v with
 |none=>exact .fail _
 |some m=>exact .ok _
theorem SF (h:E5 ev) (ops:List Oper) (o:Oper) (m:Tm):Q0 (kS P O ev 0 ops o m):=by
 unfold kS
 refine Q0.bH ?_ fun v=>Nq m _ v
 cases bJ ops m o with
 |false=>exact .ok _
 |true=>
  show Q0 (iE P O ev 0 m.eval o)
  unfold iE
  cases o.op.operands.toList.all aX with
  |false=>exact .fail _
  |true=>exact(Q0.ap _).bH fun x=>Jn h x
theorem E8 (h:E5 ev) (ops:List Oper):∀ (r:List Oper) (m:Tm),Q0 (gX P O ev 0 ops r m)
 | [],m => .ok _
 |o::r,m=>(SF h ops o m).bH fun m=>E8 h ops r m
theorem Jo (h:E5 ev) (ops:List Oper) (m:Tm):Q0 (eD P O ev 0 ops m):=by
 intro H n a s e
 unfold eD at e
 cases hd:fO ops (aL (aO [] ops) ops.length) with
 |false=>rw[hd] at e;simp at e
 |true=>
  rw[hd] at e
  simp only[cond_true] at e
  obtain⟨x,s₁,e₁,e₂⟩:=bq e
  cases hf:cG x.2 (aL (aO [] ops) ops.length) with
  |false=>rw[hf] at e₂;simp at e₂
  |true=>
   rw[hf] at e₂
   simp only[cond_true,show Nat.beq 0 0=true from rfl,aH.ok.injEq] at e₂
   rw[←e₂.2];rfl
theorem E9 (h:E5 ev) (ro:Option Nat) (g:Operand) (ps:List Tmp) (as bd:Code) (m:Tm):Q0 (eE P O ev ro 0 g ps as bd m):=by
 unfold eE
 cases aX g with
 |false=>exact .fail _
 |true=>exact(Q0.ap _).bH fun ld=>(Q0.ap _).bH fun fa=>(BT h _ _).bH fun _=>(Q0.ap _).bH fun _ => .ok _
theorem Jp (h:E5 ev):E5 (aY P O ev):=by
 intro ro c m
 cases c with
 |skip=>exact .ok _
 |label l=>exact .ok _
 |region id ops draw=>
  simp only[aY]
  refine Q0.bH ?_ fun _ => .ok _
  cases draw with
  |true=>exact Jo h _ _
  |false=>exact E8 h _ _ _
 |seq a b=>
  simp only[aY]
  refine(h _ _ _).bH fun x=>?_
  cases x.1 with
  |normal=>exact h _ _ _
  |exit i=>exact .ok _
  |ret=>exact .ok _
 |cond c a b=>
  simp only[aY]
  cases aX c with
  |false=>exact .fail _
  |true=>
   simp only[cond_true]
   generalize m.eval c=z
   cases z with
   |bool t=>cases t<;>exact h _ _ _
   | _=>exact .fail _
 |block id c=>
  simp only[aY]
  refine(h _ _ _).bH fun x=>?_
  cases x.1<;>exact .ok _
 |loop c=>
  simp only[aY]
  refine(h _ _ _).bH fun x=>?_
  cases x.1 with
  |normal=>exact h _ _ _
  |exit i=>exact .ok _
  |ret=>exact .ok _
 |exit id=>exact .ok _
 |scope c=>exact h _ _ _
 |ret=>exact .ok _
 |rangeFunc g ps as bd=>exact E9 h _ _ _ _ _ _
 |goto l=>exact .fail _
 |refuse w=>exact .fail _
theorem E_:∀ k,E5 (jW P O k)
 |0=>fun ro c m => .fail _
 |k+1=>Jp (E_ k)
end
section
variable {z:Zx} {K:List KF} {m:Tm} {h:PT ak} {n:Nat}
theorem Ev.mono {c:Code} {R R':aV→Tm→PT ak→Nat→Prop} (hR:∀ e m h n,R e m h n→R' e m h n) (e:Ev z c m h n R):Ev z c m h n R':=by
 obtain⟨hm,k,x,h',n',e,q⟩:=e
 exact⟨hm,k,x,h',n',e,hR _ _ _ _ q⟩
end
end Go.Am
