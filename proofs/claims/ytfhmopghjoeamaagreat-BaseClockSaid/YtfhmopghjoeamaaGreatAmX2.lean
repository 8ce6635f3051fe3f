/-
  A part of the proof: contracts of inner functions.
-/
import Derived.Test.YtfhmopghjoeamaaGreatAmW
set_option linter.unusedSimpArgs false
set_option linter.unusedVariables false
namespace Go.Am
section
variable {P:Program} {O:Over}
def ot (ev ev':iA):Prop:=∀ ro lim c m s x s',ev ro lim c m s = .ok x s'→ev' ro lim c m s = .ok x s'
theorem ot.refl (ev:iA):ot ev ev:=fun _ _ _ _ _ _ _ h=>h
theorem ot.trans {a b c:iA} (h:ot a b) (k:ot b c):ot a c:=fun _ _ _ _ _ _ _ e=>k _ _ _ _ _ _ _ (h _ _ _ _ _ _ _ e)
theorem br {α β:Type} {r r':aS α} {k k':α→HS→aS β} {b:β} {s':HS} (hr:∀ a s,r = .ok a s→r' = .ok a s) (hk:∀ a s,r = .ok a s→∀ b s',k a s = .ok b s'→k' a s = .ok b s') (h:bz r k = .ok b s'):bz r' k' = .ok b s':=by
 obtain⟨a,s,e,e'⟩:=aU h
 rw[hr a s e]
 exact hk a s e b s' e'
variable {ev ev':iA} (h:ot ev ev')
include h
theorem jM {lim:Nat} {f:FuncId} {args:List Value} {s s':HS} {v:Value} (e:eP P ev lim f args s = .ok v s'):eP P ev' lim f args s = .ok v s':=by
 unfold eP at e ⊢
 cases hf:P.funcs[f]? with
 |none=>rw[hf] at e;simp at e
 |some fn=>
  rw[hf] at e
  simp only at e ⊢
  cases hb:fn.body with
  |none=>rw[hb] at e;simp at e
  |some c=>
   rw[hb] at e
   simp only at e ⊢
   exact br (fun a s q=>h _ _ _ _ _ _ _ q) (fun a s _ b s' q=>q) e
theorem pN {lim:Nat} {f:FuncId} {args:List Value} {s s':HS} {v:Value} (e:dO P O ev lim f args s = .ok v s'):dO P O ev' lim f args s = .ok v s':=by
 unfold dO at e ⊢
 cases hO:O f args with
 |none=>rw[hO] at e;exact jM h e
 |some m=>rw[hO] at e;exact e
theorem uV {lim l:Nat} {m:Tm} {as bd:Code} {s s':HS} {v:Value} (e:dU ev lim l m as bd s = .ok v s'):dU ev' lim l m as bd s = .ok v s':=by
 unfold dU at e ⊢
 refine br (fun a s q=>h _ _ _ _ _ _ _ q) (fun a s _ b s' q=>?_) e
 cases hx:a.1 with
 |exit id=>simp[hx] at q
 |ret=>simp[hx] at q
 |normal=>
  simp only[hx] at q ⊢
  exact br (fun _ _ q=>q) (fun a s _ b s' q=>br (fun a s q=>h _ _ _ _ _ _ _ q) (fun _ _ _ _ _ q=>q) q) q
theorem w5 {lim:Nat} {x:aC} {s s':HS} {v:Value} (e:ep P O ev lim x s = .ok v s'):ep P O ev' lim x s = .ok v s':=by
 cases x with
 |value v=>exact e
 |skip=>exact e
 |enter f args=>exact pN h e
 |round l m as bd=>exact uV h e
theorem y3 {lim:Nat} {ρ:Operand→Value} {o:Oper} {s s':HS} {v:Value} (e:gS P O ev lim ρ o s = .ok v s'):gS P O ev' lim ρ o s = .ok v s':=by
 unfold gS at e ⊢
 cases hc:o.op.operands.toList.all aW with
 |false=>rw[hc] at e;simp at e
 |true=>
  rw[hc] at e
  simp only[cond_true] at e ⊢
  exact br (fun _ _ q=>q) (fun a s _ b s' q=>w5 h q) e
theorem vR {lim:Nat} {ops:List Oper} {o:Oper} {m m':Tm} {s s':HS} (e:kE P O ev lim ops o m s = .ok m' s'):kE P O ev' lim ops o m s = .ok m' s':=by
 unfold kE at e ⊢
 refine br (fun a s q=>?_) (fun _ _ _ _ _ q=>q) e
 cases hw:bM ops m o with
 |true=>rw[hw] at q;exact y3 h q
 |false=>rw[hw] at q;exact q
theorem ou {lim:Nat} {ops:List Oper}:∀ (r:List Oper) {m m':Tm} {s s':HS},gp P O ev lim ops r m s = .ok m' s'→gp P O ev' lim ops r m s = .ok m' s'
 | [],_,_,_,_,e=>e
 |o::r,m,m',s,s',e=>by
  unfold gp at e ⊢
  exact br (fun a s q=>vR h q) (fun a s _ b s' q=>ou r q) e
theorem pO {ops:List Oper}:∀ (r:List Oper) {m:Tm} {H:PT ak} {n:Nat} {x:Tm×List bD} {s':HS},gq P O ev ops r m H n = .ok x s'→gq P O ev' ops r m H n = .ok x s'
 | [],_,_,_,_,_,e=>e
 |o::r,m,H,n,x,s',e=>by
  unfold gq at e ⊢
  exact br (fun a s q=>vR h q) (fun a s _ b s' q=>br (fun _ _ q=>pO r q) (fun _ _ _ _ _ q=>q) q) e
theorem w6 {lim:Nat} {ops:List Oper} {m m':Tm} {s s':HS} (e:dV P O ev lim ops m s = .ok m' s'):dV P O ev' lim ops m s = .ok m' s':=by
 unfold dV at e ⊢
 cases hd:fY ops (aO (aM [] ops) ops.length) with
 |false=>rw[hd] at e;simp at e
 |true=>
  rw[hd] at e
  simp only[cond_true] at e ⊢
  exact br (fun _ _ q=>pO h ops q) (fun _ _ _ _ _ q=>q) e
theorem uW {ro:Option Nat} {lim:Nat} {g:Operand} {ps:List Tmp} {as bd:Code} {m:Tm} {s s':HS} {x:bp×Tm} (e:dW P O ev ro lim g ps as bd m s = .ok x s'):dW P O ev' ro lim g ps as bd m s = .ok x s':=by
 unfold dW at e ⊢
 cases hg:aW g with
 |false=>rw[hg] at e;simp at e
 |true=>
  rw[hg] at e
  simp only[cond_true] at e ⊢
  exact br (fun _ _ q=>q) (fun _ _ _ _ _ q=>br (fun _ _ q=>q) (fun _ _ _ _ _ q=>br (fun _ _ q=>pN h q) (fun _ _ _ _ _ q=>q) q) q) e
theorem w8:ot (a_ P O ev) (a_ P O ev'):=by
 intro ro lim c m s x s' e
 cases c with
 |skip=>exact e
 |label l=>exact e
 |region id ops draw=>
  simp only[a_] at e ⊢
  refine br (fun a s q=>?_) (fun _ _ _ _ _ q=>q) e
  cases draw with
  |true=>exact w6 h q
  |false=>exact ou h _ q
 |seq a b=>
  simp only[a_] at e ⊢
  refine br (fun _ _ q=>h _ _ _ _ _ _ _ q) (fun a s _ b s' q=>?_) e
  cases hx:a.1 with
  |normal=>simp only[hx] at q ⊢;exact h _ _ _ _ _ _ _ q
  |exit i=>simp only[hx] at q ⊢;exact q
  |ret=>simp only[hx] at q ⊢;exact q
 |cond c a b=>
  simp only[a_] at e ⊢
  cases hg:aW c with
  |false=>rw[hg] at e;simp at e
  |true=>
   rw[hg] at e
   simp only[cond_true] at e ⊢
   generalize m.eval c=z at e ⊢
   cases z with
   |bool t=>cases t<;>exact h _ _ _ _ _ _ _ e
   | _=>simp at e
 |block id c=>
  simp only[a_] at e ⊢
  exact br (fun _ _ q=>h _ _ _ _ _ _ _ q) (fun _ _ _ _ _ q=>q) e
 |loop c=>
  simp only[a_] at e ⊢
  refine br (fun _ _ q=>h _ _ _ _ _ _ _ q) (fun a s _ b s' q=>?_) e
  cases hx:a.1 with
  |normal=>simp only[hx] at q ⊢;exact h _ _ _ _ _ _ _ q
  |exit i=>simp only[hx] at q ⊢;exact q
  |ret=>simp only[hx] at q ⊢;exact q
 |exit id=>exact e
 |scope c=>exact h _ _ _ _ _ _ _ e
 |ret=>exact e
 |rangeFunc g ps as bd=>exact uW h e
 |goto l=>simp[a_] at e
 |refuse w=>simp[a_] at e
omit h
theorem bO (k:Nat):jg P O (k+1)=a_ P O (jg P O k):=rfl
theorem pP:∀ k,ot (jg P O k) (jg P O (k+1))
 |0=>fun ro lim c m s x s' e=>by
  have e:(aS.fail "fuel":aS (bp×Tm)) = .ok x s':=e
  simp at e
 |k+1=>w8 (pP k)
theorem eS {k k':Nat} (hk:k≤k'):ot (jg P O k) (jg P O k'):=by
 induction k' with
 |zero=>
  obtain rfl:k=0:=by omega
  exact .refl _
 |succ j ih=>
  by_cases hj:k≤j
  ·exact(ih hj).trans (pP j)
  ·obtain rfl:k=j+1:=by omega
   exact .refl _
end
end Go.Am
set_option linter.unusedSimpArgs false
set_option linter.unusedVariables false
namespace Go.Am
def S0 (h:PT ak) (n:Nat):HS:=⟨h,n,[],[]⟩
inductive KF where
 |seq (c:Code)
 |block (id:Nat)
 |loop (c:Code)
structure Zx where
 P:Program
 O:Over
 ro:Option Nat
 N:Nat
 Q:bp→Tm→PT ak→Nat→Prop
def Ev (z:Zx) (c:Code) (m:Tm) (h:PT ak) (n:Nat) (R:bp→Tm→PT ak→Nat→Prop):Prop:=
 m.n=z.N∧∃ k x h' n',jg z.P z.O k z.ro 0 c m (S0 h n) = .ok x (S0 h' n')∧R x.1 x.2 h' n'
def Rs (z:Zx):List KF→bp→Tm→PT ak→Nat→Prop
 | [],e,m,h,n=>m.n=z.N∧z.Q e m h n
 | .seq c::K,e,m,h,n=>match e with
  | .normal=>Ev z c m h n (Rs z K)
  | _=>Rs z K e m h n
 | .block id::K,e,m,h,n=>match e with
  | .exit i=>Rs z K (cond (Nat.beq i id) .normal (.exit i)) m h n
  | _=>Rs z K e m h n
 | .loop c::K,e,m,h,n=>match e with
  | .normal=>Ev z (.loop c) m h n (Rs z K)
  | _=>Rs z K e m h n
def ec (z:Zx) (c:Code) (K:List KF) (m:Tm) (h:PT ak) (n:Nat):Prop:=Ev z c m h n (Rs z K)
def Bc (z:Zx) (ops r:List Oper) (K:List KF) (m:Tm) (h:PT ak) (n:Nat):Prop:=
 m.n=z.N∧∃ k m' h' n',gp z.P z.O (jg z.P z.O k) 0 ops r m (S0 h n) = .ok m' (S0 h' n')∧Rs z K .normal m' h' n'
def ia (z:Zx) (p:AP aC) (d:Option Nat) (ops r:List Oper) (K:List KF) (m:Tm) (h:PT ak) (n:Nat):Prop:=
 m.n=z.N∧∃ k m' h' n',bz (p.run 0 (S0 h n)) (fun x s=>bz (ep z.P z.O (jg z.P z.O k) 0 x s) fun v s=>bz (gT m d v s) fun m s=>gp z.P z.O (jg z.P z.O k) 0 ops r m s) = .ok m' (S0 h' n')∧Rs z K .normal m' h' n'
theorem aL {α β:Type} (a:α) (s:HS) (k:α→HS→aS β):bz (.ok a s) k=k a s:=rfl
theorem fN {α β γ:Type} (r:aS α) (f:α→HS→aS β) (g:β→HS→aS γ):bz (bz r f) g=bz r fun a s=>bz (f a s) g:=by cases r<;>rfl
theorem y4 {α:Type}:∀ (p:AP α) (h:PT ak) (n:Nat) (a:α) (s:HS),p.run 0 (S0 h n) = .ok a s→s=S0 s.heap s.next
 | .pure a,h,n,b,s,e=>by simp only[AP.run,aS.ok.injEq] at e;rw[←e.2];rfl
 | .fail w,h,n,b,s,e=>by simp[AP.run] at e
 | .get id k,h,n,b,s,e=>by
  simp only[AP.run] at e
  split at e
  ·simp at e
  ·exact y4 _ _ _ _ _ e
 | .set id B k,h,n,b,s,e=>by
  simp only[AP.run] at e
  split at e
  ·simp at e
  ·exact y4 k (h.set id (some B)) n b s e
 | .kill id k,h,n,b,s,e=>by
  simp only[AP.run] at e
  split at e
  ·simp at e
  ·exact y4 k (h.set id none) n b s e
 | .new B k,h,n,b,s,e=>by
  simp only[AP.run] at e
  exact y4 (k n) (h.set n (some B)) (n+1) b s e
section
variable {P:Program} {O:Over}
def Q0 {α:Type} (F:HS→aS α):Prop:=∀ h n a s,F (S0 h n) = .ok a s→s=S0 s.heap s.next
theorem Q0.bz {α β:Type} {F:HS→aS α} {k:α→HS→aS β} (hF:Q0 F) (hk:∀ a,Q0 (k a)):Q0 (fun s=>bz (F s) k):=by
 intro h n b s e
 obtain⟨a,s₁,e₁,e₂⟩:=aU e
 have:=hF _ _ _ _ e₁
 rw[this] at e₂
 exact hk _ _ _ _ _ e₂
theorem Q0.ap {α:Type} (p:AP α):Q0 (fun s=>p.run 0 s):=fun h n a s e=>y4 p h n a s e
theorem Q0.ok {α:Type} (a:α):Q0 (fun s => .ok a s):=fun h n b s e=>by simp only[aS.ok.injEq] at e;rw[←e.2];rfl
theorem Q0.fail {α:Type} (w:String):Q0 (fun _=>(.fail w:aS α)):=fun h n b s e=>by simp at e
def y7 (ev:iA):Prop:=∀ ro c m,Q0 (fun s=>ev ro 0 c m s)
variable {ev:iA}
theorem kq:∀ l,Q0 (dF 0 l)
 | [] => .ok _
 |d::r=>(Q0.ap (kI d)).bz fun _=>kq r
theorem iK (m:Tm):∀ l,Q0 (bP P 0 m l)
 | [] => .ok _
 | .tmp t::r=>(iK m r).bz fun l => .ok (m.get t::l)
 | .cell a t::r=>(Q0.ap (dN P t (m.get a))).bz fun v=>(iK m r).bz fun l => .ok (v::l)
theorem y8 (rs:List ResultVar) (x:bp×Tm):Q0 (gK P 0 rs x):=by
 unfold gK
 cases x.1 with
 |exit id=>exact .fail _
 |normal=>exact(kq _).bz fun _=>(iK _ _).bz fun _ => .ok _
 |ret=>exact(kq _).bz fun _=>(iK _ _).bz fun _ => .ok _
theorem BS (h:y7 ev) (f:FuncId) (args:List Value):Q0 (eP P ev 0 f args):=by
 unfold eP
 cases P.funcs[f]? with
 |none=>exact .fail _
 |some fn=>
  simp only
  cases fn.body with
  |none=>exact .fail _
  |some c=>exact(h _ _ _).bz fun _=>y8 _ _
theorem vS (h:y7 ev) (f:FuncId) (args:List Value):Q0 (dO P O ev 0 f args):=by
 unfold dO
 cases O f args with
 |none=>exact BS h f args
 |some m=>exact Q0.ap m
theorem y9 (h:y7 ev) (l:Nat) (m:Tm) (as bd:Code):Q0 (dU ev 0 l m as bd):=by
 unfold dU
 refine(h _ _ _).bz fun x=>?_
 cases x.1 with
 |normal=>exact(Q0.ap _).bz fun _=>(h _ _ _).bz fun _=>Q0.ap _
 |exit i=>exact .fail _
 |ret=>exact .fail _
theorem BT (h:y7 ev) (x:aC):Q0 (ep P O ev 0 x):=by
 cases x with
 |value v=>exact .ok _
 |skip=>exact .ok _
 |enter f args=>exact vS h f args
 |round l m as bd=>exact y9 h l m as bd
theorem EJ (m:Tm) (d:Option Nat) (v:Value):Q0 (gT m d v):=by
 unfold gT
 cases m.put d v with
 |none=>exact .fail _
 |some m=>exact .ok _
theorem IG (h:y7 ev) (ops:List Oper) (o:Oper) (m:Tm):Q0 (kE P O ev 0 ops o m):=by
 unfold kE
 refine Q0.bz ?_ fun v=>EJ m _ v
 cases bM ops m o with
 |false=>exact .ok _
 |true=>
  show Q0 (gS P O ev 0 m.eval o)
  unfold gS
  cases o.op.operands.toList.all aW with
  |false=>exact .fail _
  |true=>exact(Q0.ap _).bz fun x=>BT h x
theorem y_ (h:y7 ev) (ops:List Oper):∀ (r:List Oper) (m:Tm),Q0 (gp P O ev 0 ops r m)
 | [],m => .ok _
 |o::r,m=>(IG h ops o m).bz fun m=>y_ h ops r m
theorem BU (h:y7 ev) (ops:List Oper) (m:Tm):Q0 (dV P O ev 0 ops m):=by
 intro H n a s e
 unfold dV at e
 cases hd:fY ops (aO (aM [] ops) ops.length) with
 |false=>rw[hd] at e;simp at e
 |true=>
  rw[hd] at e
  simp only[cond_true] at e
  obtain⟨x,s₁,e₁,e₂⟩:=aU e
  cases hf:cB x.2 (aO (aM [] ops) ops.length) with
  |false=>rw[hf] at e₂;simp at e₂
  |true=>
   rw[hf] at e₂
   simp only[cond_true,show Nat.beq 0 0=true from rfl,aS.ok.injEq] at e₂
   rw[←e₂.2];rfl
theorem za (h:y7 ev) (ro:Option Nat) (g:Operand) (ps:List Tmp) (as bd:Code) (m:Tm):Q0 (dW P O ev ro 0 g ps as bd m):=by
 unfold dW
 cases aW g with
 |false=>exact .fail _
 |true=>exact(Q0.ap _).bz fun ld=>(Q0.ap _).bz fun fa=>(vS h _ _).bz fun _=>(Q0.ap _).bz fun _ => .ok _
theorem BV (h:y7 ev):y7 (a_ P O ev):=by
 intro ro c m
 cases c with
 |skip=>exact .ok _
 |label l=>exact .ok _
 |region id ops draw=>
  simp only[a_]
  refine Q0.bz ?_ fun _ => .ok _
  cases draw with
  |true=>exact BU h _ _
  |false=>exact y_ h _ _ _
 |seq a b=>
  simp only[a_]
  refine(h _ _ _).bz fun x=>?_
  cases x.1 with
  |normal=>exact h _ _ _
  |exit i=>exact .ok _
  |ret=>exact .ok _
 |cond c a b=>
  simp only[a_]
  cases aW c with
  |false=>exact .fail _
  |true=>
   simp only[cond_true]
   generalize m.eval c=z
   cases z with
   |bool t=>cases t<;>exact h _ _ _
   | _=>exact .fail _
 |block id c=>
  simp only[a_]
  refine(h _ _ _).bz fun x=>?_
  cases x.1<;>exact .ok _
 |loop c=>
  simp only[a_]
  refine(h _ _ _).bz fun x=>?_
  cases x.1 with
  |normal=>exact h _ _ _
  |exit i=>exact .ok _
  |ret=>exact .ok _
 |exit id=>exact .ok _
 |scope c=>exact h _ _ _
 |ret=>exact .ok _
 |rangeFunc g ps as bd=>exact za h _ _ _ _ _ _
 |goto l=>exact .fail _
 |refuse w=>exact .fail _
theorem zb:∀ k,y7 (jg P O k)
 |0=>fun ro c m => .fail _
 |k+1=>BV (zb k)
end
section
variable {z:Zx} {K:List KF} {m:Tm} {h:PT ak} {n:Nat}
theorem Ev.mono {c:Code} {R R':bp→Tm→PT ak→Nat→Prop} (hR:∀ e m h n,R e m h n→R' e m h n) (e:Ev z c m h n R):Ev z c m h n R':=by
 obtain⟨hm,k,x,h',n',e,q⟩:=e
 exact⟨hm,k,x,h',n',e,hR _ _ _ _ q⟩
end
end Go.Am
