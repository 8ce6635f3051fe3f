/-
  A part of the proof: contracts of inner functions.
-/
import Derived.Test.YtfhmopghjoeamaaGreatAmW
set_option linter.unusedSimpArgs false
set_option linter.unusedVariables false
namespace Go.Am
section
variable {P:Program} {O:Over}
def qm (ev ev':jd):Prop:=∀ ro lim c m s x s',ev ro lim c m s = .ok x s'→ev' ro lim c m s = .ok x s'
theorem qm.refl (ev:jd):qm ev ev:=fun _ _ _ _ _ _ _ h=>h
theorem qm.trans {a b c:jd} (h:qm a b) (k:qm b c):qm a c:=fun _ _ _ _ _ _ _ e=>k _ _ _ _ _ _ _ (h _ _ _ _ _ _ _ e)
theorem bC {α β:Type} {r r':aW α} {k k':α→HS→aW β} {b:β} {s':HS} (hr:∀ a s,r = .ok a s→r' = .ok a s) (hk:∀ a s,r = .ok a s→∀ b s',k a s = .ok b s'→k' a s = .ok b s') (h:bF r k = .ok b s'):bF r' k' = .ok b s':=by
 obtain⟨a,s,e,e'⟩:=aX h
 rw[hr a s e]
 exact hk a s e b s' e'
variable {ev ev':jd} (h:qm ev ev')
include h
theorem kK {lim:Nat} {f:FuncId} {args:List Value} {s s':HS} {v:Value} (e:fG P ev lim f args s = .ok v s'):fG P ev' lim f args s = .ok v s':=by
 unfold fG at e ⊢
 cases hf:P.funcs[f]? with
 |none=>rw[hf] at e;simp at e
 |some fn=>
  rw[hf] at e
  simp only at e ⊢
  cases hb:fn.body with
  |none=>rw[hb] at e;simp at e
  |some c=>
   rw[hb] at e
   simp only at e ⊢
   exact bC (fun a s q=>h _ _ _ _ _ _ _ q) (fun a s _ b s' q=>q) e
theorem rP {lim:Nat} {f:FuncId} {args:List Value} {s s':HS} {v:Value} (e:ew P O ev lim f args s = .ok v s'):ew P O ev' lim f args s = .ok v s':=by
 unfold ew at e ⊢
 cases hO:O f args with
 |none=>rw[hO] at e;exact kK h e
 |some m=>rw[hO] at e;exact e
theorem xD {lim l:Nat} {m:Tm} {as bd:Code} {s s':HS} {v:Value} (e:eD ev lim l m as bd s = .ok v s'):eD ev' lim l m as bd s = .ok v s':=by
 unfold eD at e ⊢
 refine bC (fun a s q=>h _ _ _ _ _ _ _ q) (fun a s _ b s' q=>?_) e
 cases hx:a.1 with
 |exit id=>simp[hx] at q
 |ret=>simp[hx] at q
 |normal=>
  simp only[hx] at q ⊢
  exact bC (fun _ _ q=>q) (fun a s _ b s' q=>bC (fun a s q=>h _ _ _ _ _ _ _ q) (fun _ _ _ _ _ q=>q) q) q
theorem zO {lim:Nat} {x:aE} {s s':HS} {v:Value} (e:eS P O ev lim x s = .ok v s'):eS P O ev' lim x s = .ok v s':=by
 cases x with
 |value v=>exact e
 |skip=>exact e
 |enter f args=>exact rP h e
 |round l m as bd=>exact xD h e
theorem BM {lim:Nat} {ρ:Operand→Value} {o:Oper} {s s':HS} {v:Value} (e:iJ P O ev lim ρ o s = .ok v s'):iJ P O ev' lim ρ o s = .ok v s':=by
 unfold iJ at e ⊢
 cases hc:o.op.operands.toList.all a_ with
 |false=>rw[hc] at e;simp at e
 |true=>
  rw[hc] at e
  simp only[cond_true] at e ⊢
  exact bC (fun _ _ q=>q) (fun a s _ b s' q=>zO h q) e
theorem yN {lim:Nat} {ops:List Oper} {o:Oper} {m m':Tm} {s s':HS} (e:lV P O ev lim ops o m s = .ok m' s'):lV P O ev' lim ops o m s = .ok m' s':=by
 unfold lV at e ⊢
 refine bC (fun a s q=>?_) (fun _ _ _ _ _ q=>q) e
 cases hw:bU ops m o with
 |true=>rw[hw] at q;exact BM h q
 |false=>rw[hw] at q;exact q
theorem qn {lim:Nat} {ops:List Oper}:∀ (r:List Oper) {m m':Tm} {s s':HS},gU P O ev lim ops r m s = .ok m' s'→gU P O ev' lim ops r m s = .ok m' s'
 | [],_,_,_,_,e=>e
 |o::r,m,m',s,s',e=>by
  unfold gU at e ⊢
  exact bC (fun a s q=>yN h q) (fun a s _ b s' q=>qn r q) e
theorem rQ {ops:List Oper}:∀ (r:List Oper) {m:Tm} {H:PT aj} {n:Nat} {x:Tm×List bI} {s':HS},gV P O ev ops r m H n = .ok x s'→gV P O ev' ops r m H n = .ok x s'
 | [],_,_,_,_,_,e=>e
 |o::r,m,H,n,x,s',e=>by
  unfold gV at e ⊢
  exact bC (fun a s q=>yN h q) (fun a s _ b s' q=>bC (fun _ _ q=>rQ r q) (fun _ _ _ _ _ q=>q) q) e
theorem zP {lim:Nat} {ops:List Oper} {m m':Tm} {s s':HS} (e:eE P O ev lim ops m s = .ok m' s'):eE P O ev' lim ops m s = .ok m' s':=by
 unfold eE at e ⊢
 cases hd:gK ops (aP (aN [] ops) ops.length) with
 |false=>rw[hd] at e;simp at e
 |true=>
  rw[hd] at e
  simp only[cond_true] at e ⊢
  exact bC (fun _ _ q=>rQ h ops q) (fun _ _ _ _ _ q=>q) e
theorem xE {ro:Option Nat} {lim:Nat} {g:Operand} {ps:List Tmp} {as bd:Code} {m:Tm} {s s':HS} {x:bw×Tm} (e:eF P O ev ro lim g ps as bd m s = .ok x s'):eF P O ev' ro lim g ps as bd m s = .ok x s':=by
 unfold eF at e ⊢
 cases hg:a_ g with
 |false=>rw[hg] at e;simp at e
 |true=>
  rw[hg] at e
  simp only[cond_true] at e ⊢
  exact bC (fun _ _ q=>q) (fun _ _ _ _ _ q=>bC (fun _ _ q=>q) (fun _ _ _ _ _ q=>bC (fun _ _ q=>rP h q) (fun _ _ _ _ _ q=>q) q) q) e
theorem zQ:qm (bh P O ev) (bh P O ev'):=by
 intro ro lim c m s x s' e
 cases c with
 |skip=>exact e
 |label l=>exact e
 |region id ops draw=>
  simp only[bh] at e ⊢
  refine bC (fun a s q=>?_) (fun _ _ _ _ _ q=>q) e
  cases draw with
  |true=>exact zP h q
  |false=>exact qn h _ q
 |seq a b=>
  simp only[bh] at e ⊢
  refine bC (fun _ _ q=>h _ _ _ _ _ _ _ q) (fun a s _ b s' q=>?_) e
  cases hx:a.1 with
  |normal=>simp only[hx] at q ⊢;exact h _ _ _ _ _ _ _ q
  |exit i=>simp only[hx] at q ⊢;exact q
  |ret=>simp only[hx] at q ⊢;exact q
 |cond c a b=>
  simp only[bh] at e ⊢
  cases hg:a_ c with
  |false=>rw[hg] at e;simp at e
  |true=>
   rw[hg] at e
   simp only[cond_true] at e ⊢
   generalize m.eval c=z at e ⊢
   cases z with
   |bool t=>cases t<;>exact h _ _ _ _ _ _ _ e
   | _=>simp at e
 |block id c=>
  simp only[bh] at e ⊢
  exact bC (fun _ _ q=>h _ _ _ _ _ _ _ q) (fun _ _ _ _ _ q=>q) e
 |loop c=>
  simp only[bh] at e ⊢
  refine bC (fun _ _ q=>h _ _ _ _ _ _ _ q) (fun a s _ b s' q=>?_) e
  cases hx:a.1 with
  |normal=>simp only[hx] at q ⊢;exact h _ _ _ _ _ _ _ q
  |exit i=>simp only[hx] at q ⊢;exact q
  |ret=>simp only[hx] at q ⊢;exact q
 |exit id=>exact e
 |scope c=>exact h _ _ _ _ _ _ _ e
 |ret=>exact e
 |rangeFunc g ps as bd=>exact xE h e
 |goto l=>simp[bh] at e
 |refuse w=>simp[bh] at e
omit h
theorem bW (k:Nat):jL P O (k+1)=bh P O (jL P O k):=rfl
theorem rR:∀ k,qm (jL P O k) (jL P O (k+1))
 |0=>fun ro lim c m s x s' e=>by
  have e:(aW.fail "fuel":aW (bw×Tm)) = .ok x s':=e
  simp at e
 |k+1=>zQ (rR k)
theorem fI {k k':Nat} (hk:k≤k'):qm (jL P O k) (jL P O k'):=by
 induction k' with
 |zero=>
  obtain rfl:k=0:=by omega
  exact .refl _
 |succ j ih=>
  by_cases hj:k≤j
  ·exact(ih hj).trans (rR j)
  ·obtain rfl:k=j+1:=by omega
   exact .refl _
end
end Go.Am
set_option linter.unusedSimpArgs false
set_option linter.unusedVariables false
namespace Go.Am
def S0 (h:PT aj) (n:Nat):HS:=⟨h,n,[],[]⟩
inductive KF where
 |seq (c:Code)
 |block (id:Nat)
 |loop (c:Code)
structure Zx where
 P:Program
 O:Over
 ro:Option Nat
 N:Nat
 Q:bw→Tm→PT aj→Nat→Prop
def Ev (z:Zx) (c:Code) (m:Tm) (h:PT aj) (n:Nat) (R:bw→Tm→PT aj→Nat→Prop):Prop:=
 m.n=z.N∧∃ k x h' n',jL z.P z.O k z.ro 0 c m (S0 h n) = .ok x (S0 h' n')∧R x.1 x.2 h' n'
def Rs (z:Zx):List KF→bw→Tm→PT aj→Nat→Prop
 | [],e,m,h,n=>m.n=z.N∧z.Q e m h n
 | .seq c::K,e,m,h,n=>match e with
  | .normal=>Ev z c m h n (Rs z K)
  | _=>Rs z K e m h n
 | .block id::K,e,m,h,n=>match e with
  | .exit i=>Rs z K (cond (Nat.beq i id) .normal (.exit i)) m h n
  | _=>Rs z K e m h n
 | .loop c::K,e,m,h,n=>match e with
  | .normal=>Ev z (.loop c) m h n (Rs z K)
  | _=>Rs z K e m h n
def ez (z:Zx) (c:Code) (K:List KF) (m:Tm) (h:PT aj) (n:Nat):Prop:=Ev z c m h n (Rs z K)
def Ea (z:Zx) (ops r:List Oper) (K:List KF) (m:Tm) (h:PT aj) (n:Nat):Prop:=
 m.n=z.N∧∃ k m' h' n',gU z.P z.O (jL z.P z.O k) 0 ops r m (S0 h n) = .ok m' (S0 h' n')∧Rs z K .normal m' h' n'
def iC (z:Zx) (p:AP aE) (d:Option Nat) (ops r:List Oper) (K:List KF) (m:Tm) (h:PT aj) (n:Nat):Prop:=
 m.n=z.N∧∃ k m' h' n',bF (p.run 0 (S0 h n)) (fun x s=>bF (eS z.P z.O (jL z.P z.O k) 0 x s) fun v s=>bF (iK m d v s) fun m s=>gU z.P z.O (jL z.P z.O k) 0 ops r m s) = .ok m' (S0 h' n')∧Rs z K .normal m' h' n'
theorem aM {α β:Type} (a:α) (s:HS) (k:α→HS→aW β):bF (.ok a s) k=k a s:=rfl
theorem gq {α β γ:Type} (r:aW α) (f:α→HS→aW β) (g:β→HS→aW γ):bF (bF r f) g=bF r fun a s=>bF (f a s) g:=by cases r<;>rfl
theorem BN {α:Type}:∀ (p:AP α) (h:PT aj) (n:Nat) (a:α) (s:HS),p.run 0 (S0 h n) = .ok a s→s=S0 s.heap s.next
 | .pure a,h,n,b,s,e=>by simp only[AP.run,aW.ok.injEq] at e;rw[←e.2];rfl
 | .fail w,h,n,b,s,e=>by simp[AP.run] at e
 | .get id k,h,n,b,s,e=>by
  simp only[AP.run] at e
  split at e
  ·simp at e
  ·exact BN _ _ _ _ _ e
 | .set id B k,h,n,b,s,e=>by
  simp only[AP.run] at e
  split at e
  ·simp at e
  ·exact BN k (h.set id (some B)) n b s e
 | .kill id k,h,n,b,s,e=>by
  simp only[AP.run] at e
  split at e
  ·simp at e
  ·exact BN k (h.set id none) n b s e
 | .new B k,h,n,b,s,e=>by
  simp only[AP.run] at e
  exact BN (k n) (h.set n (some B)) (n+1) b s e
section
variable {P:Program} {O:Over}
def Q0 {α:Type} (F:HS→aW α):Prop:=∀ h n a s,F (S0 h n) = .ok a s→s=S0 s.heap s.next
theorem Q0.bF {α β:Type} {F:HS→aW α} {k:α→HS→aW β} (hF:Q0 F) (hk:∀ a,Q0 (k a)):Q0 (fun s=>bF (F s) k):=by
 intro h n b s e
 obtain⟨a,s₁,e₁,e₂⟩:=aX e
 have:=hF _ _ _ _ e₁
 rw[this] at e₂
 exact hk _ _ _ _ _ e₂
theorem Q0.ap {α:Type} (p:AP α):Q0 (fun s=>p.run 0 s):=fun h n a s e=>BN p h n a s e
theorem Q0.ok {α:Type} (a:α):Q0 (fun s => .ok a s):=fun h n b s e=>by simp only[aW.ok.injEq] at e;rw[←e.2];rfl
theorem Q0.fail {α:Type} (w:String):Q0 (fun _=>(.fail w:aW α)):=fun h n b s e=>by simp at e
def BO (ev:jd):Prop:=∀ ro c m,Q0 (fun s=>ev ro 0 c m s)
variable {ev:jd}
theorem lI:∀ l,Q0 (dX 0 l)
 | [] => .ok _
 |d::r=>(Q0.ap (l5 d)).bF fun _=>lI r
theorem jq (m:Tm):∀ l,Q0 (bY P 0 m l)
 | [] => .ok _
 | .tmp t::r=>(jq m r).bF fun l => .ok (m.get t::l)
 | .cell a t::r=>(Q0.ap (eu P t (m.get a))).bF fun v=>(jq m r).bF fun l => .ok (v::l)
theorem BP (rs:List ResultVar) (x:bw×Tm):Q0 (iz P 0 rs x):=by
 unfold iz
 cases x.1 with
 |exit id=>exact .fail _
 |normal=>exact(lI _).bF fun _=>(jq _ _).bF fun _ => .ok _
 |ret=>exact(lI _).bF fun _=>(jq _ _).bF fun _ => .ok _
theorem EU (h:BO ev) (f:FuncId) (args:List Value):Q0 (fG P ev 0 f args):=by
 unfold fG
 cases P.funcs[f]? with
 |none=>exact .fail _
 |some fn=>
  simp only
  cases fn.body with
  |none=>exact .fail _
  |some c=>exact(h _ _ _).bF fun _=>BP _ _
theorem yO (h:BO ev) (f:FuncId) (args:List Value):Q0 (ew P O ev 0 f args):=by
 unfold ew
 cases O f args with
 |none=>exact EU h f args
 |some m=>exact Q0.ap m
theorem BQ (h:BO ev) (l:Nat) (m:Tm) (as bd:Code):Q0 (eD ev 0 l m as bd):=by
 unfold eD
 refine(h _ _ _).bF fun x=>?_
 cases x.1 with
 |normal=>exact(Q0.ap _).bF fun _=>(h _ _ _).bF fun _=>Q0.ap _
 |exit i=>exact .fail _
 |ret=>exact .fail _
theorem EV (h:BO ev) (x:aE):Q0 (eS P O ev 0 x):=by
 cases x with
 |value v=>exact .ok _
 |skip=>exact .ok _
 |enter f args=>exact yO h f args
 |round l m as bd=>exact BQ h l m as bd
theorem IP (m:Tm) (d:Option Nat) (v:Value):Q0 (iK m d v):=by
 unfold iK
 cases m.put d v with
 |none=>exact .fail _
 |some m=>exact .ok _
theorem MV (h:BO ev) (ops:List Oper) (o:Oper) (m:Tm):Q0 (lV P O ev 0 ops o m):=by
 unfold lV
 refine Q0.bF ?_ fun v=>IP m _ v
 cases bU ops m o with
 |false=>exact .ok _
 |true=>
  show Q0 (iJ P O ev 0 m.eval o)
  unfold iJ
  cases o.op.operands.toList.all a_ with
  |false=>exact .fail _
  |true=>exact(Q0.ap _).bF fun x=>EV h x
theorem BR (h:BO ev) (ops:List Oper):∀ (r:List Oper) (m:Tm),Q0 (gU P O ev 0 ops r m)
 | [],m => .ok _
 |o::r,m=>(MV h ops o m).bF fun m=>BR h ops r m
theorem EW (h:BO ev) (ops:List Oper) (m:Tm):Q0 (eE P O ev 0 ops m):=by
 intro H n a s e
 unfold eE at e
 cases hd:gK ops (aP (aN [] ops) ops.length) with
 |false=>rw[hd] at e;simp at e
 |true=>
  rw[hd] at e
  simp only[cond_true] at e
  obtain⟨x,s₁,e₁,e₂⟩:=aX e
  cases hf:cQ x.2 (aP (aN [] ops) ops.length) with
  |false=>rw[hf] at e₂;simp at e₂
  |true=>
   rw[hf] at e₂
   simp only[cond_true,show Nat.beq 0 0=true from rfl,aW.ok.injEq] at e₂
   rw[←e₂.2];rfl
theorem BS (h:BO ev) (ro:Option Nat) (g:Operand) (ps:List Tmp) (as bd:Code) (m:Tm):Q0 (eF P O ev ro 0 g ps as bd m):=by
 unfold eF
 cases a_ g with
 |false=>exact .fail _
 |true=>exact(Q0.ap _).bF fun ld=>(Q0.ap _).bF fun fa=>(yO h _ _).bF fun _=>(Q0.ap _).bF fun _ => .ok _
theorem EX (h:BO ev):BO (bh P O ev):=by
 intro ro c m
 cases c with
 |skip=>exact .ok _
 |label l=>exact .ok _
 |region id ops draw=>
  simp only[bh]
  refine Q0.bF ?_ fun _ => .ok _
  cases draw with
  |true=>exact EW h _ _
  |false=>exact BR h _ _ _
 |seq a b=>
  simp only[bh]
  refine(h _ _ _).bF fun x=>?_
  cases x.1 with
  |normal=>exact h _ _ _
  |exit i=>exact .ok _
  |ret=>exact .ok _
 |cond c a b=>
  simp only[bh]
  cases a_ c with
  |false=>exact .fail _
  |true=>
   simp only[cond_true]
   generalize m.eval c=z
   cases z with
   |bool t=>cases t<;>exact h _ _ _
   | _=>exact .fail _
 |block id c=>
  simp only[bh]
  refine(h _ _ _).bF fun x=>?_
  cases x.1<;>exact .ok _
 |loop c=>
  simp only[bh]
  refine(h _ _ _).bF fun x=>?_
  cases x.1 with
  |normal=>exact h _ _ _
  |exit i=>exact .ok _
  |ret=>exact .ok _
 |exit id=>exact .ok _
 |scope c=>exact h _ _ _
 |ret=>exact .ok _
 |rangeFunc g ps as bd=>exact BS h _ _ _ _ _ _
 |goto l=>exact .fail _
 |refuse w=>exact .fail _
theorem BT:∀ k,BO (jL P O k)
 |0=>fun ro c m => .fail _
 |k+1=>EX (BT k)
end
section
variable {z:Zx} {K:List KF} {m:Tm} {h:PT aj} {n:Nat}
theorem Ev.mono {c:Code} {R R':bw→Tm→PT aj→Nat→Prop} (hR:∀ e m h n,R e m h n→R' e m h n) (e:Ev z c m h n R):Ev z c m h n R':=by
 obtain⟨hm,k,x,h',n',e,q⟩:=e
 exact⟨hm,k,x,h',n',e,hR _ _ _ _ q⟩
end
end Go.Am
