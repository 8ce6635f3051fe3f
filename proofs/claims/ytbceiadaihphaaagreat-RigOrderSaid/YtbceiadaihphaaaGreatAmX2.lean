/-
  A part of the proof: contracts of inner functions.
-/
import Derived.Test.YtbceiadaihphaaaGreatAmW
set_option linter.unusedSimpArgs false
set_option linter.unusedVariables false
namespace Go.Am
section
variable {P:Program} {O:dK}
def rX (ev ev':ke):Prop:=∀ ro lim c m s x s',ev ro lim c m s = .ok x s'→ev' ro lim c m s = .ok x s'
theorem rX.refl (ev:ke):rX ev ev:=fun _ _ _ _ _ _ _ h=>h
theorem rX.trans {a b c:ke} (h:rX a b) (k:rX b c):rX a c:=fun _ _ _ _ _ _ _ e=>k _ _ _ _ _ _ _ (h _ _ _ _ _ _ _ e)
theorem bN {α β:Type} {r r':bw α} {k k':α→HS→bw β} {b:β} {s':HS} (hr:∀ a s,r = .ok a s→r' = .ok a s) (hk:∀ a s,r = .ok a s→∀ b s',k a s = .ok b s'→k' a s = .ok b s') (h:bT r k = .ok b s'):bT r' k' = .ok b s':=by
 obtain⟨a,s,e,e'⟩:=bz h
 rw[hr a s e]
 exact hk a s e b s' e'
variable {ev ev':ke} (h:rX ev ev')
include h
theorem mN {lim:Nat} {f:FuncId} {args:List Value} {s s':HS} {v:Value} (e:fZ P ev lim f args s = .ok v s'):fZ P ev' lim f args s = .ok v s':=by
 unfold fZ at e ⊢
 cases hf:P.funcs[f]? with
 |none=>rw[hf] at e;simp at e
 |some fn=>
  rw[hf] at e
  simp only at e ⊢
  cases hb:fn.body with
  |none=>rw[hb] at e;simp at e
  |some c=>
   rw[hb] at e
   simp only at e ⊢
   exact bN (fun a s q=>h _ _ _ _ _ _ _ q) (fun a s _ b s' q=>q) e
theorem tM {lim:Nat} {f:FuncId} {args:List Value} {s s':HS} {v:Value} (e:fD P O ev lim f args s = .ok v s'):fD P O ev' lim f args s = .ok v s':=by
 unfold fD at e ⊢
 cases hO:O f args with
 |none=>rw[hO] at e;exact mN h e
 |some m=>rw[hO] at e;exact e
theorem rY {lim l:Nat} {m:Tm} {as bd:Code} {s s':HS} {v:Value} (e:fP ev lim l m as bd s = .ok v s'):fP ev' lim l m as bd s = .ok v s':=by
 unfold fP at e ⊢
 refine bN (fun a s q=>h _ _ _ _ _ _ _ q) (fun a s _ b s' q=>?_) e
 cases hx:a.1 with
 |exit id=>simp[hx] at q
 |ret=>simp[hx] at q
 |normal=>
  simp only[hx] at q ⊢
  exact bN (fun _ _ q=>q) (fun a s _ b s' q=>bN (fun a s q=>h _ _ _ _ _ _ _ q) (fun _ _ _ _ _ q=>q) q) q
theorem Bd {lim:Nat} {x:aJ} {s s':HS} {v:Value} (e:f_ P O ev lim x s = .ok v s'):f_ P O ev' lim x s = .ok v s':=by
 cases x with
 |value v=>exact e
 |skip=>exact e
 |enter f args=>exact tM h e
 |round l m as bd=>exact rY h e
theorem DB {lim:Nat} {ρ:Operand→Value} {o:Oper} {s s':HS} {v:Value} (e:jH P O ev lim ρ o s = .ok v s'):jH P O ev' lim ρ o s = .ok v s':=by
 unfold jH at e ⊢
 cases hc:o.op.operands.toList.all bt with
 |false=>rw[hc] at e;simp at e
 |true=>
  rw[hc] at e
  simp only[cond_true] at e ⊢
  exact bN (fun _ _ q=>q) (fun a s _ b s' q=>Bd h q) e
theorem z6 {lim:Nat} {ops:List Oper} {o:Oper} {m m':Tm} {s s':HS} (e:n6 P O ev lim ops o m s = .ok m' s'):n6 P O ev' lim ops o m s = .ok m' s':=by
 unfold n6 at e ⊢
 refine bN (fun a s q=>?_) (fun _ _ _ _ _ q=>q) e
 cases hw:cI ops m o with
 |true=>rw[hw] at q;exact DB h q
 |false=>rw[hw] at q;exact q
theorem oK {lim:Nat} {ops:List Oper}:∀ (r:List Oper) {m m':Tm} {s s':HS},bX P O ev lim ops r m s = .ok m' s'→bX P O ev' lim ops r m s = .ok m' s'
 | [],_,_,_,_,e=>e
 |o::r,m,m',s,s',e=>by
  unfold bX at e ⊢
  exact bN (fun a s q=>z6 h q) (fun a s _ b s' q=>oK r q) e
theorem tN {ops:List Oper}:∀ (r:List Oper) {m:Tm} {H:PT aj} {n:Nat} {x:Tm×List cm} {s':HS},jg P O ev ops r m H n = .ok x s'→jg P O ev' ops r m H n = .ok x s'
 | [],_,_,_,_,_,e=>e
 |o::r,m,H,n,x,s',e=>by
  unfold jg at e ⊢
  exact bN (fun a s q=>z6 h q) (fun a s _ b s' q=>bN (fun _ _ q=>tN r q) (fun _ _ _ _ _ q=>q) q) e
theorem Be {lim:Nat} {ops:List Oper} {m m':Tm} {s s':HS} (e:ga P O ev lim ops m s = .ok m' s'):ga P O ev' lim ops m s = .ok m' s':=by
 unfold ga at e ⊢
 cases hd:iq ops (a_ (aY [] ops) ops.length) with
 |false=>rw[hd] at e;simp at e
 |true=>
  rw[hd] at e
  simp only[cond_true] at e ⊢
  exact bN (fun _ _ q=>tN h ops q) (fun _ _ _ _ _ q=>q) e
theorem yJ {ro:Option Nat} {lim:Nat} {g:Operand} {ps:List Tmp} {as bd:Code} {m:Tm} {s s':HS} {x:bJ×Tm} (e:fQ P O ev ro lim g ps as bd m s = .ok x s'):fQ P O ev' ro lim g ps as bd m s = .ok x s':=by
 unfold fQ at e ⊢
 cases hg:bt g with
 |false=>rw[hg] at e;simp at e
 |true=>
  rw[hg] at e
  simp only[cond_true] at e ⊢
  exact bN (fun _ _ q=>q) (fun _ _ _ _ _ q=>bN (fun _ _ q=>q) (fun _ _ _ _ _ q=>bN (fun _ _ q=>tM h q) (fun _ _ _ _ _ q=>q) q) q) e
theorem Bf:rX (bD P O ev) (bD P O ev'):=by
 intro ro lim c m s x s' e
 cases c with
 |skip=>exact e
 |label l=>exact e
 |region id ops draw=>
  simp only[bD] at e ⊢
  refine bN (fun a s q=>?_) (fun _ _ _ _ _ q=>q) e
  cases draw with
  |true=>exact Be h q
  |false=>exact oK h _ q
 |seq a b=>
  simp only[bD] at e ⊢
  refine bN (fun _ _ q=>h _ _ _ _ _ _ _ q) (fun a s _ b s' q=>?_) e
  cases hx:a.1 with
  |normal=>simp only[hx] at q ⊢;exact h _ _ _ _ _ _ _ q
  |exit i=>simp only[hx] at q ⊢;exact q
  |ret=>simp only[hx] at q ⊢;exact q
 |cond c a b=>
  simp only[bD] at e ⊢
  cases hg:bt c with
  |false=>rw[hg] at e;simp at e
  |true=>
   rw[hg] at e
   simp only[cond_true] at e ⊢
   generalize m.eval c=z at e ⊢
   cases z with
   |bool t=>cases t<;>exact h _ _ _ _ _ _ _ e
   | _=>simp at e
 |block id c=>
  simp only[bD] at e ⊢
  exact bN (fun _ _ q=>h _ _ _ _ _ _ _ q) (fun _ _ _ _ _ q=>q) e
 |loop c=>
  simp only[bD] at e ⊢
  refine bN (fun _ _ q=>h _ _ _ _ _ _ _ q) (fun a s _ b s' q=>?_) e
  cases hx:a.1 with
  |normal=>simp only[hx] at q ⊢;exact h _ _ _ _ _ _ _ q
  |exit i=>simp only[hx] at q ⊢;exact q
  |ret=>simp only[hx] at q ⊢;exact q
 |exit id=>exact e
 |scope c=>exact h _ _ _ _ _ _ _ e
 |ret=>exact e
 |rangeFunc g ps as bd=>exact yJ h e
 |goto l=>simp[bD] at e
 |refuse w=>simp[bD] at e
omit h
theorem cD (k:Nat):kX P O (k+1)=bD P O (kX P O k):=rfl
theorem tO:∀ k,rX (kX P O k) (kX P O (k+1))
 |0=>fun ro lim c m s x s' e=>by
  have e:(bw.fail "fuel":bw (bJ×Tm)) = .ok x s':=e
  simp at e
 |k+1=>Bf (tO k)
theorem ez {k k':Nat} (hk:k≤k'):rX (kX P O k) (kX P O k'):=by
 induction k' with
 |zero=>
  obtain rfl:k=0:=by omega
  exact .refl _
 |succ j ih=>
  by_cases hj:k≤j
  ·exact(ih hj).trans (tO j)
  ·obtain rfl:k=j+1:=by omega
   exact .refl _
end
end Go.Am
namespace Go.Am
def S0 (h:PT aj) (n:Nat):HS:=⟨h,n,[],[]⟩
inductive KF where
 |seq (c:Code)
 |block (id:Nat)
 |loop (c:Code)
structure Zx where
 P:Program
 O:dK
 ro:Option Nat
 N:Nat
 Q:bJ→Tm→PT aj→Nat→Prop
def Ev (z:Zx) (c:Code) (m:Tm) (h:PT aj) (n:Nat) (R:bJ→Tm→PT aj→Nat→Prop):Prop:=
 m.n=z.N∧∃ k x h' n',kX z.P z.O k z.ro 0 c m (S0 h n) = .ok x (S0 h' n')∧R x.1 x.2 h' n'
def Rs (z:Zx):List KF→bJ→Tm→PT aj→Nat→Prop
 | [],e,m,h,n=>m.n=z.N∧z.Q e m h n
 | .seq c::K,e,m,h,n=>match e with
  | .normal=>Ev z c m h n (Rs z K)
  | _=>Rs z K e m h n
 | .block id::K,e,m,h,n=>match e with
  | .exit i=>Rs z K (cond (Nat.beq i id) .normal (.exit i)) m h n
  | _=>Rs z K e m h n
 | .loop c::K,e,m,h,n=>match e with
  | .normal=>Ev z (.loop c) m h n (Rs z K)
  | _=>Rs z K e m h n
def eZ (z:Zx) (c:Code) (K:List KF) (m:Tm) (h:PT aj) (n:Nat):Prop:=Ev z c m h n (Rs z K)
def F5 (z:Zx) (ops r:List Oper) (K:List KF) (m:Tm) (h:PT aj) (n:Nat):Prop:=
 m.n=z.N∧∃ k m' h' n',bX z.P z.O (kX z.P z.O k) 0 ops r m (S0 h n) = .ok m' (S0 h' n')∧Rs z K .normal m' h' n'
def kU (z:Zx) (p:AP aJ) (d:Option Nat) (ops r:List Oper) (K:List KF) (m:Tm) (h:PT aj) (n:Nat):Prop:=
 m.n=z.N∧∃ k m' h' n',bT (p.run 0 (S0 h n)) (fun x s=>bT (f_ z.P z.O (kX z.P z.O k) 0 x s) fun v s=>bT (jI m d v s) fun m s=>bX z.P z.O (kX z.P z.O k) 0 ops r m s) = .ok m' (S0 h' n')∧Rs z K .normal m' h' n'
theorem aK {α β:Type} (a:α) (s:HS) (k:α→HS→bw β):bT (.ok a s) k=k a s:=rfl
theorem iF {α β γ:Type} (r:bw α) (f:α→HS→bw β) (g:β→HS→bw γ):bT (bT r f) g=bT r fun a s=>bT (f a s) g:=by cases r<;>rfl
theorem DC {α:Type}:∀ (p:AP α) (h:PT aj) (n:Nat) (a:α) (s:HS),p.run 0 (S0 h n) = .ok a s→s=S0 s.heap s.next
 | .pure a,h,n,b,s,e=>by simp only[AP.run,bw.ok.injEq] at e;rw[←e.2];rfl
 | .fail w,h,n,b,s,e=>by simp[AP.run] at e
 | .get id k,h,n,b,s,e=>by
  simp only[AP.run] at e
  split at e
  ·simp at e
  ·exact DC _ _ _ _ _ e
 | .set id B k,h,n,b,s,e=>by
  simp only[AP.run] at e
  split at e
  ·simp at e
  ·exact DC k (h.set id (some B)) n b s e
 | .kill id k,h,n,b,s,e=>by
  simp only[AP.run] at e
  split at e
  ·simp at e
  ·exact DC k (h.set id none) n b s e
 | .new B k,h,n,b,s,e=>by
  simp only[AP.run] at e
  exact DC (k n) (h.set n (some B)) (n+1) b s e
section
variable {P:Program} {O:dK}
def Q0 {α:Type} (F:HS→bw α):Prop:=∀ h n a s,F (S0 h n) = .ok a s→s=S0 s.heap s.next
theorem Q0.bT {α β:Type} {F:HS→bw α} {k:α→HS→bw β} (hF:Q0 F) (hk:∀ a,Q0 (k a)):Q0 (fun s=>bT (F s) k):=by
 intro h n b s e
 obtain⟨a,s₁,e₁,e₂⟩:=bz e
 have:=hF _ _ _ _ e₁
 rw[this] at e₂
 exact hk _ _ _ _ _ e₂
theorem Q0.ap {α:Type} (p:AP α):Q0 (fun s=>p.run 0 s):=fun h n a s e=>DC p h n a s e
theorem Q0.ok {α:Type} (a:α):Q0 (fun s => .ok a s):=fun h n b s e=>by simp only[bw.ok.injEq] at e;rw[←e.2];rfl
theorem Q0.fail {α:Type} (w:String):Q0 (fun _=>(.fail w:bw α)):=fun h n b s e=>by simp at e
def DE (ev:ke):Prop:=∀ ro c m,Q0 (fun s=>ev ro 0 c m s)
variable {ev:ke}
theorem nO:∀ l,Q0 (eI 0 l)
 | [] => .ok _
 |d::r=>(Q0.ap (mH d)).bT fun _=>nO r
theorem kC (m:Tm):∀ l,Q0 (cP P 0 m l)
 | [] => .ok _
 | .tmp t::r=>(kC m r).bT fun l => .ok (m.get t::l)
 | .cell a t::r=>(Q0.ap (fT P t (m.get a))).bT fun v=>(kC m r).bT fun l => .ok (v::l)
theorem DF (rs:List ResultVar) (x:bJ×Tm):Q0 (iR P 0 rs x):=by
 unfold iR
 cases x.1 with
 |exit id=>exact .fail _
 |normal=>exact(nO _).bT fun _=>(kC _ _).bT fun _ => .ok _
 |ret=>exact(nO _).bT fun _=>(kC _ _).bT fun _ => .ok _
theorem GX (h:DE ev) (f:FuncId) (args:List Value):Q0 (fZ P ev 0 f args):=by
 unfold fZ
 cases P.funcs[f]? with
 |none=>exact .fail _
 |some fn=>
  simp only
  cases fn.body with
  |none=>exact .fail _
  |some c=>exact(h _ _ _).bT fun _=>DF _ _
theorem z7 (h:DE ev) (f:FuncId) (args:List Value):Q0 (fD P O ev 0 f args):=by
 unfold fD
 cases O f args with
 |none=>exact GX h f args
 |some m=>exact Q0.ap m
theorem DG (h:DE ev) (l:Nat) (m:Tm) (as bd:Code):Q0 (fP ev 0 l m as bd):=by
 unfold fP
 refine(h _ _ _).bT fun x=>?_
 cases x.1 with
 |normal=>exact(Q0.ap _).bT fun _=>(h _ _ _).bT fun _=>Q0.ap _
 |exit i=>exact .fail _
 |ret=>exact .fail _
theorem GY (h:DE ev) (x:aJ):Q0 (f_ P O ev 0 x):=by
 cases x with
 |value v=>exact .ok _
 |skip=>exact .ok _
 |enter f args=>exact z7 h f args
 |round l m as bd=>exact DG h l m as bd
theorem KS (m:Tm) (d:Option Nat) (v:Value):Q0 (jI m d v):=by
 unfold jI
 cases m.put d v with
 |none=>exact .fail _
 |some m=>exact .ok _
theorem PX (h:DE ev) (ops:List Oper) (o:Oper) (m:Tm):Q0 (n6 P O ev 0 ops o m):=by
 unfold n6
 refine Q0.bT ?_ fun v=>KS m _ v
 cases cI ops m o with
 |false=>exact .ok _
 |true=>
  show Q0 (jH P O ev 0 m.eval o)
  unfold jH
  cases o.op.operands.toList.all bt with
  |false=>exact .fail _
  |true=>exact(Q0.ap _).bT fun x=>GY h x
theorem DH (h:DE ev) (ops:List Oper):∀ (r:List Oper) (m:Tm),Q0 (bX P O ev 0 ops r m)
 | [],m => .ok _
 |o::r,m=>(PX h ops o m).bT fun m=>DH h ops r m
theorem GZ (h:DE ev) (ops:List Oper) (m:Tm):Q0 (ga P O ev 0 ops m):=by
 intro H n a s e
 unfold ga at e
 cases hd:iq ops (a_ (aY [] ops) ops.length) with
 |false=>rw[hd] at e;simp at e
 |true=>
  rw[hd] at e
  simp only[cond_true] at e
  obtain⟨x,s₁,e₁,e₂⟩:=bz e
  cases hf:dU x.2 (a_ (aY [] ops) ops.length) with
  |false=>rw[hf] at e₂;simp at e₂
  |true=>
   rw[hf] at e₂
   simp only[cond_true,show Nat.beq 0 0=true from rfl,bw.ok.injEq] at e₂
   rw[←e₂.2];rfl
theorem DI (h:DE ev) (ro:Option Nat) (g:Operand) (ps:List Tmp) (as bd:Code) (m:Tm):Q0 (fQ P O ev ro 0 g ps as bd m):=by
 unfold fQ
 cases bt g with
 |false=>exact .fail _
 |true=>exact(Q0.ap _).bT fun ld=>(Q0.ap _).bT fun fa=>(z7 h _ _).bT fun _=>(Q0.ap _).bT fun _ => .ok _
theorem G0 (h:DE ev):DE (bD P O ev):=by
 intro ro c m
 cases c with
 |skip=>exact .ok _
 |label l=>exact .ok _
 |region id ops draw=>
  simp only[bD]
  refine Q0.bT ?_ fun _ => .ok _
  cases draw with
  |true=>exact GZ h _ _
  |false=>exact DH h _ _ _
 |seq a b=>
  simp only[bD]
  refine(h _ _ _).bT fun x=>?_
  cases x.1 with
  |normal=>exact h _ _ _
  |exit i=>exact .ok _
  |ret=>exact .ok _
 |cond c a b=>
  simp only[bD]
  cases bt c with
  |false=>exact .fail _
  |true=>
   simp only[cond_true]
   generalize m.eval c=z
   cases z with
   |bool t=>cases t<;>exact h _ _ _
   | _=>exact .fail _
 |block id c=>
  simp only[bD]
  refine(h _ _ _).bT fun x=>?_
  cases x.1<;>exact .ok _
 |loop c=>
  simp only[bD]
  refine(h _ _ _).bT fun x=>?_
  cases x.1 with
  |normal=>exact h _ _ _
  |exit i=>exact .ok _
  |ret=>exact .ok _
 |exit id=>exact .ok _
 |scope c=>exact h _ _ _
 |ret=>exact .ok _
 |rangeFunc g ps as bd=>exact DI h _ _ _ _ _ _
 |goto l=>exact .fail _
 |refuse w=>exact .fail _
theorem DJ:∀ k,DE (kX P O k)
 |0=>fun ro c m => .fail _
 |k+1=>G0 (DJ k)
end
section
variable {z:Zx} {K:List KF} {m:Tm} {h:PT aj} {n:Nat}
theorem Ev.mono {c:Code} {R R':bJ→Tm→PT aj→Nat→Prop} (hR:∀ e m h n,R e m h n→R' e m h n) (e:Ev z c m h n R):Ev z c m h n R':=by
 obtain⟨hm,k,x,h',n',e,q⟩:=e
 exact⟨hm,k,x,h',n',e,hR _ _ _ _ q⟩
end
end Go.Am
