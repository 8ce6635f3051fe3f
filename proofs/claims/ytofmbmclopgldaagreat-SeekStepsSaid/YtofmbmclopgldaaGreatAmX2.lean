/-
A part.
-/
import Derived.Test.YtofmbmclopgldaaGreatAmW
set_option linter.all false
namespace Go.Am
section
variable {P:Program} {O:Over}
def xx(ev ev':iL):Prop:=∀ ro lim c m s x s',ev ro lim c m s = .ok x s'→ev' ro lim c m s = .ok x s'
theorem xx.refl(ev:iL):xx ev ev:=fun _ _ _ _ _ _ _ h=>h
theorem xx.trans{a b c:iL}(h:xx a b)(k:xx b c):xx a c:=fun _ _ _ _ _ _ _ e=>k _ _ _ _ _ _ _ (h _ _ _ _ _ _ _ e)
theorem cm{α β:Type}{r r':aO α}{k k':α→HS→aO β}{b:β}{s':HS}(hr:∀ a s,r = .ok a s→r' = .ok a s)(hk:∀ a s,r = .ok a s→∀ b s',k a s = .ok b s'→k' a s = .ok b s')(h:bP r k = .ok b s'):bP r' k' = .ok b s':=by
 obtain⟨a,s,e,e'⟩:=bE h;rw[hr a s e];exact hk a s e b s' e'
variable {ev ev':iL} (h:xx ev ev')
include h
theorem mC{lim:Nat}{f:FuncId}{args:List Value}{s s':HS}{v:Value}(e:gV P ev lim f args s = .ok v s'):gV P ev' lim f args s = .ok v s':=by
 unfold gV at e ⊢;cases hf:P.funcs[f]? with
 |none=>rw[hf] at e;simp at e
 |some fn=>
  rw[hf] at e;simp only at e ⊢;cases hb:fn.body with
  |none=>rw[hb] at e;simp at e
  |some c=>
   rw[hb] at e;simp only at e ⊢;exact cm (fun a s q=>h _ _ _ _ _ _ _ q) (fun a s _ b s' q=>q) e
theorem z_{lim:Nat}{f:FuncId}{args:List Value}{s s':HS}{v:Value}(e:fT P O ev lim f args s = .ok v s'):fT P O ev' lim f args s = .ok v s':=by
 unfold fT at e ⊢;cases hO:O f args with
 |none=>rw[hO] at e;exact mC h e
 |some m=>rw[hO] at e;exact e
theorem Gw{lim l:Nat}{m:Tm}{as bd:Code}{s s':HS}{v:Value}(e:ga ev lim l m as bd s = .ok v s'):ga ev' lim l m as bd s = .ok v s':=by
 unfold ga at e ⊢;refine cm (fun a s q=>h _ _ _ _ _ _ _ q) (fun a s _ b s' q=>?_) e;cases hx:a.1 with
 |exit id=>simp[hx] at q
 |ret=>simp[hx] at q
 |normal=>
  simp only[hx] at q ⊢;exact cm (fun _ _ q=>q) (fun a s _ b s' q=>cm (fun a s q=>h _ _ _ _ _ _ _ q) (fun _ _ _ _ _ q=>q) q) q
theorem J8{lim:Nat}{x:aG}{s s':HS}{v:Value}(e:fU P O ev lim x s = .ok v s'):fU P O ev' lim x s = .ok v s':=by
 cases x with
 |value v=>exact e
 |skip=>exact e
 |enter f args=>exact z_ h e
 |round l m as bd=>exact Gw h e
theorem MJ{lim:Nat}{ρ:Operand→Value}{o:Oper}{s s':HS}{v:Value}(e:jr P O ev lim ρ o s = .ok v s'):jr P O ev' lim ρ o s = .ok v s':=by
 unfold jr at e ⊢;cases hc:o.op.operands.toList.all bz with
 |false=>rw[hc] at e;simp at e
 |true=>
  rw[hc] at e;simp only[cond_true] at e ⊢;exact cm (fun _ _ q=>q) (fun a s _ b s' q=>J8 h q) e
theorem Ie{lim:Nat}{ops:List Oper}{o:Oper}{m m':Tm}{s s':HS}(e:lW P O ev lim ops o m s = .ok m' s'):lW P O ev' lim ops o m s = .ok m' s':=by
 unfold lW at e ⊢;refine cm (fun a s q=>?_) (fun _ _ _ _ _ q=>q) e;cases hw:b_ ops m o with
 |true=>rw[hw] at q;exact MJ h q
 |false=>rw[hw] at q;exact q
theorem xy{lim:Nat}{ops:List Oper}:∀ (r:List Oper) {m m':Tm} {s s':HS},jl P O ev lim ops r m s = .ok m' s'→jl P O ev' lim ops r m s = .ok m' s'
 | [],_,_,_,_,e=>e
 |o::r,m,m',s,s',e=>by
  unfold jl at e ⊢;exact cm (fun a s q=>Ie h q) (fun a s _ b s' q=>xy r q) e
theorem Aa{ops:List Oper}:∀ (r:List Oper) {m:Tm} {H:PT aj} {n:Nat} {x:Tm×List bO} {s':HS},g8 P O ev ops r m H n = .ok x s'→g8 P O ev' ops r m H n = .ok x s'
 | [],_,_,_,_,_,e=>e
 |o::r,m,H,n,x,s',e=>by
  unfold g8 at e ⊢;exact cm (fun a s q=>Ie h q) (fun a s _ b s' q=>cm (fun _ _ q=>Aa r q) (fun _ _ _ _ _ q=>q) q) e
theorem J9{lim:Nat}{ops:List Oper}{m m':Tm}{s s':HS}(e:fJ P O ev lim ops m s = .ok m' s'):fJ P O ev' lim ops m s = .ok m' s':=by
 unfold fJ at e ⊢;cases hd:g9 ops (aR (aU [] ops) ops.length) with
 |false=>rw[hd] at e;simp at e
 |true=>
  rw[hd] at e;simp only[cond_true] at e ⊢;exact cm (fun _ _ q=>Aa h ops q) (fun _ _ _ _ _ q=>q) e
theorem Gx{ro:Option Nat}{lim:Nat}{g:Operand}{ps:List Tmp}{as bd:Code}{m:Tm}{s s':HS}{x:bp×Tm}(e:fL P O ev ro lim g ps as bd m s = .ok x s'):fL P O ev' ro lim g ps as bd m s = .ok x s':=by
 unfold fL at e ⊢;cases hg:bz g with
 |false=>rw[hg] at e;simp at e
 |true=>
  rw[hg] at e;simp only[cond_true] at e ⊢;exact cm (fun _ _ q=>q) (fun _ _ _ _ _ q=>cm (fun _ _ q=>q) (fun _ _ _ _ _ q=>cm (fun _ _ q=>z_ h q) (fun _ _ _ _ _ q=>q) q) q) e
theorem J_:xx (br P O ev) (br P O ev'):=by
 intro ro lim c m s x s' e;cases c with
 |skip=>exact e
 |label l=>exact e
 |region id ops draw=>
  simp only[br] at e ⊢;refine cm (fun a s q=>?_) (fun _ _ _ _ _ q=>q) e;cases draw with
  |true=>exact J9 h q
  |false=>exact xy h _ q
 |seq a b=>
  simp only[br] at e ⊢;refine cm (fun _ _ q=>h _ _ _ _ _ _ _ q) (fun a s _ b s' q=>?_) e;cases hx:a.1 with
  |normal=>simp only[hx] at q ⊢;exact h _ _ _ _ _ _ _ q
  |exit i=>simp only[hx] at q ⊢;exact q
  |ret=>simp only[hx] at q ⊢;exact q
 |cond c a b=>
  simp only[br] at e ⊢;cases hg:bz c with
  |false=>rw[hg] at e;simp at e
  |true=>
   rw[hg] at e;simp only[cond_true] at e ⊢;generalize m.eval c=z at e ⊢;cases z with
   |bool t=>cases t<;>exact h _ _ _ _ _ _ _ e
   | _=>simp at e
 |block id c=>
  simp only[br] at e ⊢;exact cm (fun _ _ q=>h _ _ _ _ _ _ _ q) (fun _ _ _ _ _ q=>q) e
 |loop c=>
  simp only[br] at e ⊢;refine cm (fun _ _ q=>h _ _ _ _ _ _ _ q) (fun a s _ b s' q=>?_) e;cases hx:a.1 with
  |normal=>simp only[hx] at q ⊢;exact h _ _ _ _ _ _ _ q
  |exit i=>simp only[hx] at q ⊢;exact q
  |ret=>simp only[hx] at q ⊢;exact q
 |exit id=>exact e
 |scope c=>exact h _ _ _ _ _ _ _ e
 |ret=>exact e
 |rangeFunc g ps as bd=>exact Gx h e
 |goto l=>simp[br] at e
 |refuse w=>simp[br] at e
omit h
theorem dr(k:Nat):mQ P O (k+1)=br P O (mQ P O k):=rfl
theorem Ab:∀ k,xx (mQ P O k) (mQ P O (k+1))
 |0=>fun ro lim c m s x s' e=>by
  have e:(aO.fail "fuel":aO (bp×Tm)) = .ok x s':=e;simp at e
 |k+1=>J_ (Ab k)
theorem iu{k k':Nat}(hk:k≤k'):xx (mQ P O k) (mQ P O k'):=by
 induction k' with
 |zero=>
  obtain rfl:k=0:=by omega
  exact .refl _
 |succ j ih=>
  by_cases hj:k≤j
  ·exact(ih hj).trans (Ab j)
  ·obtain rfl:k=j+1:=by omega
   exact .refl _
end
end Go.Am
namespace Go.Am
def S0(h:PT aj)(n:Nat):HS:=⟨h,n,[],[]⟩
inductive KF where
 |seq (c:Code)
 |block (id:Nat)
 |loop (c:Code)
structure Zx where
 P:Program
 O:Over
 ro:Option Nat
 N:Nat
 Q:bp→Tm→PT aj→Nat→Prop
def Ev(z:Zx)(c:Code)(m:Tm)(h:PT aj)(n:Nat)(R:bp→Tm→PT aj→Nat→Prop):Prop:=
 m.n=z.N∧∃ k x h' n',mQ z.P z.O k z.ro 0 c m (S0 h n) = .ok x (S0 h' n')∧R x.1 x.2 h' n'
def Rs(z:Zx):List KF→bp→Tm→PT aj→Nat→Prop
 | [],e,m,h,n=>m.n=z.N∧z.Q e m h n
 | .seq c::K,e,m,h,n=>match e with
  | .normal=>Ev z c m h n (Rs z K)
  | _=>Rs z K e m h n
 | .block id::K,e,m,h,n=>match e with
  | .exit i=>Rs z K (cond (Nat.beq i id) .normal (.exit i)) m h n
  | _=>Rs z K e m h n
 | .loop c::K,e,m,h,n=>match e with
  | .normal=>Ev z (.loop c) m h n (Rs z K)
  | _=>Rs z K e m h n
def iZ(z:Zx)(c:Code)(K:List KF)(m:Tm)(h:PT aj)(n:Nat):Prop:=Ev z c m h n (Rs z K)
def RA(z:Zx)(ops r:List Oper)(K:List KF)(m:Tm)(h:PT aj)(n:Nat):Prop:=
 m.n=z.N∧∃ k m' h' n',jl z.P z.O (mQ z.P z.O k) 0 ops r m (S0 h n) = .ok m' (S0 h' n')∧Rs z K .normal m' h' n'
def jZ(z:Zx)(p:AP aG)(d:Option Nat)(ops r:List Oper)(K:List KF)(m:Tm)(h:PT aj)(n:Nat):Prop:=
 m.n=z.N∧∃ k m' h' n',bP (p.run 0 (S0 h n)) (fun x s=>bP (fU z.P z.O (mQ z.P z.O k) 0 x s) fun v s=>bP (jt m d v s) fun m s=>jl z.P z.O (mQ z.P z.O k) 0 ops r m s) = .ok m' (S0 h' n')∧Rs z K .normal m' h' n'
theorem aS{α β:Type}(a:α)(s:HS)(k:α→HS→aO β):bP (.ok a s) k=k a s:=rfl
theorem gS{α β γ:Type}(r:aO α)(f:α→HS→aO β)(g:β→HS→aO γ):bP (bP r f) g=bP r fun a s=>bP (f a s) g:=by cases r<;>rfl
theorem MK{α:Type}:∀ (p:AP α) (h:PT aj) (n:Nat) (a:α) (s:HS),p.run 0 (S0 h n) = .ok a s→s=S0 s.heap s.next
 | .pure a,h,n,b,s,e=>by simp only[AP.run,aO.ok.injEq] at e;rw[←e.2];rfl
 | .fail w,h,n,b,s,e=>by simp[AP.run] at e
 | .get id k,h,n,b,s,e=>by
  simp only[AP.run] at e;split at e
  ·simp at e
  ·exact MK _ _ _ _ _ e
 | .set id B k,h,n,b,s,e=>by
  simp only[AP.run] at e;split at e
  ·simp at e
  ·exact MK k (h.set id (some B)) n b s e
 | .kill id k,h,n,b,s,e=>by
  simp only[AP.run] at e;split at e
  ·simp at e
  ·exact MK k (h.set id none) n b s e
 | .new B k,h,n,b,s,e=>by
  simp only[AP.run] at e;exact MK (k n) (h.set n (some B)) (n+1) b s e
section
variable {P:Program} {O:Over}
def Q0{α:Type}(F:HS→aO α):Prop:=∀ h n a s,F (S0 h n) = .ok a s→s=S0 s.heap s.next
theorem Q0.bP{α β:Type}{F:HS→aO α}{k:α→HS→aO β}(hF:Q0 F)(hk:∀ a,Q0 (k a)):Q0 (fun s=>bP (F s) k):=by
 intro h n b s e;obtain⟨a,s₁,e₁,e₂⟩:=bE e;have:=hF _ _ _ _ e₁;rw[this] at e₂;exact hk _ _ _ _ _ e₂
theorem Q0.ap{α:Type}(p:AP α):Q0 (fun s=>p.run 0 s):=fun h n a s e=>MK p h n a s e
theorem Q0.ok{α:Type}(a:α):Q0 (fun s => .ok a s):=fun h n b s e=>by simp only[aO.ok.injEq] at e;rw[←e.2];rfl
theorem Q0.fail{α:Type}(w:String):Q0 (fun _=>(.fail w:aO α)):=fun h n b s e=>by simp at e
def ML(ev:iL):Prop:=∀ ro c m,Q0 (fun s=>ev ro 0 c m s)
variable {ev:iL}
theorem qZ:∀ l,Q0 (fB 0 l)
 | [] => .ok _
 |d::r=>(Q0.ap (pX d)).bP fun _=>qZ r
theorem nD(m:Tm):∀ l,Q0 (cD P 0 m l)
 | [] => .ok _
 | .tmp t::r=>(nD m r).bP fun l => .ok (m.get t::l)
 | .cell a t::r=>(Q0.ap (fG P t (m.get a))).bP fun v=>(nD m r).bP fun l => .ok (v::l)
theorem MN(rs:List ResultVar)(x:bp×Tm):Q0 (iH P 0 rs x):=by
 unfold iH;cases x.1 with
 |exit id=>exact .fail _
 |normal=>exact(qZ _).bP fun _=>(nD _ _).bP fun _ => .ok _
 |ret=>exact(qZ _).bP fun _=>(nD _ _).bP fun _ => .ok _
theorem SE(h:ML ev)(f:FuncId)(args:List Value):Q0 (gV P ev 0 f args):=by
 unfold gV;cases P.funcs[f]? with
 |none=>exact .fail _
 |some fn=>
  simp only;cases fn.body with
  |none=>exact .fail _
  |some c=>exact(h _ _ _).bP fun _=>MN _ _
theorem Ig(h:ML ev)(f:FuncId)(args:List Value):Q0 (fT P O ev 0 f args):=by
 unfold fT;cases O f args with
 |none=>exact SE h f args
 |some m=>exact Q0.ap m
theorem MO(h:ML ev)(l:Nat)(m:Tm)(as bd:Code):Q0 (ga ev 0 l m as bd):=by
 unfold ga;refine(h _ _ _).bP fun x=>?_;cases x.1 with
 |normal=>exact(Q0.ap _).bP fun _=>(h _ _ _).bP fun _=>Q0.ap _
 |exit i=>exact .fail _
 |ret=>exact .fail _
theorem SF(h:ML ev)(x:aG):Q0 (fU P O ev 0 x):=by
 cases x with
 |value v=>exact .ok _
 |skip=>exact .ok _
 |enter f args=>exact Ig h f args
 |round l m as bd=>exact MO h l m as bd
theorem Yh(m:Tm)(d:Option Nat)(v:Value):Q0 (jt m d v):=by
 unfold jt;cases m.put d v with
 |none=>exact .fail _
 |some m=>exact .ok _
theorem ac_(h:ML ev)(ops:List Oper)(o:Oper)(m:Tm):Q0 (lW P O ev 0 ops o m):=by
 unfold lW;refine Q0.bP ?_ fun v=>Yh m _ v;cases b_ ops m o with
 |false=>exact .ok _
 |true=>
  show Q0 (jr P O ev 0 m.eval o)
  unfold jr;cases o.op.operands.toList.all bz with
  |false=>exact .fail _
  |true=>exact(Q0.ap _).bP fun x=>SF h x
theorem MP(h:ML ev)(ops:List Oper):∀ (r:List Oper) (m:Tm),Q0 (jl P O ev 0 ops r m)
 | [],m => .ok _
 |o::r,m=>(ac_ h ops o m).bP fun m=>MP h ops r m
theorem SG(h:ML ev)(ops:List Oper)(m:Tm):Q0 (fJ P O ev 0 ops m):=by
 intro H n a s e;unfold fJ at e;cases hd:g9 ops (aR (aU [] ops) ops.length) with
 |false=>rw[hd] at e;simp at e
 |true=>
  rw[hd] at e;simp only[cond_true] at e;obtain⟨x,s₁,e₁,e₂⟩:=bE e;cases hf:dc x.2 (aR (aU [] ops) ops.length) with
  |false=>rw[hf] at e₂;simp at e₂
  |true=>
   rw[hf] at e₂;simp only[cond_true,show Nat.beq 0 0=true from rfl,aO.ok.injEq] at e₂;rw[←e₂.2];rfl
theorem MQ(h:ML ev)(ro:Option Nat)(g:Operand)(ps:List Tmp)(as bd:Code)(m:Tm):Q0 (fL P O ev ro 0 g ps as bd m):=by
 unfold fL;cases bz g with
 |false=>exact .fail _
 |true=>exact(Q0.ap _).bP fun ld=>(Q0.ap _).bP fun fa=>(Ig h _ _).bP fun _=>(Q0.ap _).bP fun _ => .ok _
theorem SH(h:ML ev):ML (br P O ev):=by
 intro ro c m;cases c with
 |skip=>exact .ok _
 |label l=>exact .ok _
 |region id ops draw=>
  simp only[br];refine Q0.bP ?_ fun _ => .ok _;cases draw with
  |true=>exact SG h _ _
  |false=>exact MP h _ _ _
 |seq a b=>
  simp only[br];refine(h _ _ _).bP fun x=>?_;cases x.1 with
  |normal=>exact h _ _ _
  |exit i=>exact .ok _
  |ret=>exact .ok _
 |cond c a b=>
  simp only[br];cases bz c with
  |false=>exact .fail _
  |true=>
   simp only[cond_true];generalize m.eval c=z;cases z with
   |bool t=>cases t<;>exact h _ _ _
   | _=>exact .fail _
 |block id c=>
  simp only[br];refine(h _ _ _).bP fun x=>?_;cases x.1<;>exact .ok _
 |loop c=>
  simp only[br];refine(h _ _ _).bP fun x=>?_;cases x.1 with
  |normal=>exact h _ _ _
  |exit i=>exact .ok _
  |ret=>exact .ok _
 |exit id=>exact .ok _
 |scope c=>exact h _ _ _
 |ret=>exact .ok _
 |rangeFunc g ps as bd=>exact MQ h _ _ _ _ _ _
 |goto l=>exact .fail _
 |refuse w=>exact .fail _
theorem MR:∀ k,ML (mQ P O k)
 |0=>fun ro c m => .fail _
 |k+1=>SH (MR k)
end
section
variable {z:Zx} {K:List KF} {m:Tm} {h:PT aj} {n:Nat}
theorem Ev.mono{c:Code}{R R':bp→Tm→PT aj→Nat→Prop}(hR:∀ e m h n,R e m h n→R' e m h n)(e:Ev z c m h n R):Ev z c m h n R':=by
 obtain⟨hm,k,x,h',n',e,q⟩:=e;exact⟨hm,k,x,h',n',e,hR _ _ _ _ q⟩
end
end Go.Am
