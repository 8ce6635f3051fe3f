/-
  A part of the proof: contracts of inner functions.
-/
import Derived.Test.YtfhmopghjoeamaaGreatAmX3
set_option linter.unusedSimpArgs false
set_option linter.unusedVariables false
namespace Go.Am
def AP.note {α:Type}:AP α→HS→aS α
 | .pure a,s => .ok a s
 | .fail why,_ => .fail why
 | .get id k,s=>match s.heap.get id with
  |none => .fail "get"
  |some b=>(k b).note { s with rd:=id::s.rd }
 | .set id b k,s=>match s.heap.get id with
  |none => .fail "set"
  |some _=>k.note { s with heap:=s.heap.set id (some b),wr:=id::s.wr }
 | .kill id k,s=>match s.heap.get id with
  |none => .fail "kill"
  |some _=>k.note { s with heap:=s.heap.set id none,wr:=id::s.wr }
 | .new b k,s=>(k s.next).note { s with heap:=s.heap.set s.next (some b),next:=Nat.succ s.next }
theorem iL {id:Nat} {l l':List Nat} (hl:∀ i∈l,i∈l') {i:Nat} (hi:i∈cond true (ins id l) l):i∈id::l':=by
 simp only[cond_true,ins] at hi
 cases ha:l.any (Nat.beq id) with
 |true=>rw[ha] at hi;exact List.mem_cons_of_mem _ (hl i hi)
 |false=>
  rw[ha] at hi
  rcases List.mem_cons.1 hi with rfl |hi
  ·exact List.mem_cons_self
  ·exact List.mem_cons_of_mem _ (hl i hi)
theorem g9 {α:Type} (lim:Nat):∀ (p:AP α) (s:HS) (a:α) (s':HS),p.note s = .ok a s'→∀ rd wr,(∀ i∈rd,i∈s.rd)→(∀ i∈wr,i∈s.wr)→
  ∃ rd' wr',p.run lim ⟨s.heap,s.next,rd,wr⟩ = .ok a ⟨s'.heap,s'.next,rd',wr'⟩∧(∀ i∈rd',i∈s'.rd)∧(∀ i∈wr',i∈s'.wr)
 | .pure a,s,b,s',e,rd,wr,h1,h2=>by
  simp only[AP.note,aS.ok.injEq] at e
  obtain⟨rfl,rfl⟩:=e
  exact⟨rd,wr,rfl,h1,h2⟩
 | .fail w,s,b,s',e,rd,wr,h1,h2=>by simp[AP.note] at e
 | .get id k,s,b,s',e,rd,wr,h1,h2=>by
  simp only[AP.note] at e
  cases hb:s.heap.get id with
  |none=>rw[hb] at e;simp at e
  |some B=>
   rw[hb] at e
   simp only at e
   have:=g9 lim (k B) _ b s' e (cond (Nat.blt id lim) (ins id rd) rd) wr (fun i hi=>?_) h2
   ·obtain⟨rd',wr',q,q1,q2⟩:=this
    refine⟨rd',wr',?_,q1,q2⟩
    simp only[AP.run,hb]
    cases hl:Nat.blt id lim<;>simp only[hl,cond_true,cond_false] at q ⊢<;>exact q
   ·cases hl:Nat.blt id lim with
    |false=>rw[hl] at hi;exact List.mem_cons_of_mem _ (h1 i hi)
    |true=>
     rw[hl] at hi
     exact iL h1 hi
 | .set id c k,s,b,s',e,rd,wr,h1,h2=>by
  simp only[AP.note] at e
  cases hb:s.heap.get id with
  |none=>rw[hb] at e;simp at e
  |some B=>
   rw[hb] at e
   simp only at e
   have:=g9 lim k _ b s' e rd (cond (Nat.blt id lim) (ins id wr) wr) h1 (fun i hi=>?_)
   ·obtain⟨rd',wr',q,q1,q2⟩:=this
    refine⟨rd',wr',?_,q1,q2⟩
    simp only[AP.run,hb]
    cases hl:Nat.blt id lim<;>simp only[hl,cond_true,cond_false] at q ⊢<;>exact q
   ·cases hl:Nat.blt id lim with
    |false=>rw[hl] at hi;exact List.mem_cons_of_mem _ (h2 i hi)
    |true=>
     rw[hl] at hi
     exact iL h2 hi
 | .kill id k,s,b,s',e,rd,wr,h1,h2=>by
  simp only[AP.note] at e
  cases hb:s.heap.get id with
  |none=>rw[hb] at e;simp at e
  |some B=>
   rw[hb] at e
   simp only at e
   have:=g9 lim k _ b s' e rd (cond (Nat.blt id lim) (ins id wr) wr) h1 (fun i hi=>?_)
   ·obtain⟨rd',wr',q,q1,q2⟩:=this
    refine⟨rd',wr',?_,q1,q2⟩
    simp only[AP.run,hb]
    cases hl:Nat.blt id lim<;>simp only[hl,cond_true,cond_false] at q ⊢<;>exact q
   ·cases hl:Nat.blt id lim with
    |false=>rw[hl] at hi;exact List.mem_cons_of_mem _ (h2 i hi)
    |true=>
     rw[hl] at hi
     exact iL h2 hi
 | .new c k,s,b,s',e,rd,wr,h1,h2=>by
  simp only[AP.note] at e
  exact g9 lim (k s.next) _ b s' e rd wr h1 h2
def NM (e:Prop) {α:Type} (F0 F:HS→aS α):Prop:=∀ h n pR pg a s,F0 ⟨h,n,pR,pg⟩ = .ok a s→∀ rd wr,∃ rd' wr',F ⟨h,n,rd,wr⟩ = .ok a ⟨s.heap,s.next,rd',wr'⟩∧(e→Sub rd pR→Sub rd' s.rd)∧(e→Sub wr pg→Sub wr' s.wr)
theorem NM.bz {e:Prop} {α β:Type} {F0 F:HS→aS α} {k0 k:α→HS→aS β} (hF:NM e F0 F) (hk:∀ a,NM e (k0 a) (k a)):NM e (fun s=>bz (F0 s) k0) (fun s=>bz (F s) k):=by
 intro h n pR pg b s q rd wr
 obtain⟨a,s₁,q1,q2⟩:=aU q
 obtain⟨rd',wr',u,u1,u2⟩:=hF h n pR pg a s₁ q1 rd wr
 obtain⟨Wa,Wb,v,v1,v2⟩:=hk a s₁.heap s₁.next s₁.rd s₁.wr b s q2 rd' wr'
 exact⟨Wa,Wb,by show Go.Am.bz _ _=_;rw[u,aL];exact v,fun c c1=>v1 c (u1 c c1),fun c c1=>v2 c (u2 c c1)⟩
theorem NM.ok {e:Prop} {α:Type} (a:α):NM e (fun s => .ok a s) (fun s => .ok a s):=fun h n pR pg b s q rd wr=>by
 simp only[aS.ok.injEq] at q
 obtain⟨rfl,rfl⟩:=q
 exact⟨rd,wr,rfl,fun _ c=>c,fun _ c=>c⟩
theorem NM.fail {e:Prop} {α:Type} (w:String) (F:HS→aS α):NM e (fun _=>(.fail w:aS α)) F:=fun h n pR pg b s q rd wr=>by simp at q
theorem qM {lim id:Nat} {l l':List Nat} (h:Sub l l'):Sub (cond (Nat.blt id lim) (ins id l) l) (cond (Nat.blt id lim) (ins id l') l'):=by
 cases Nat.blt id lim with
 |false=>exact h
 |true=>exact fun x hx=>dK.2 ((dK.1 hx).imp (fun c=>c) (h x))
theorem NM.ap {α:Type} (bH lim:Nat):∀ (p:AP α),NM (bH=lim) (fun s=>p.run bH s) (fun s=>p.run lim s)
 | .pure a=>fun h n pR pg b s q rd wr=>by
  simp only[AP.run,aS.ok.injEq] at q
  obtain⟨rfl,rfl⟩:=q
  exact⟨rd,wr,rfl,fun _ c=>c,fun _ c=>c⟩
 | .fail w=>fun h n pR pg b s q rd wr=>by simp[AP.run] at q
 | .get id k=>fun h n pR pg b s q rd wr=>by
  simp only[AP.run] at q ⊢
  cases hb:h.get id with
  |none=>rw[hb] at q;simp at q
  |some B=>
   rw[hb] at q
   simp only at q
   have e0:∀ l r w,(match Nat.blt id l with |true=>(⟨h,n,ins id r,w⟩:HS) |false=>⟨h,n,r,w⟩)=⟨h,n,cond (Nat.blt id l) (ins id r) r,w⟩:=fun l r w=>by cases Nat.blt id l<;>rfl
   have q':(k B).run bH ⟨h,n,cond (Nat.blt id bH) (ins id pR) pR,pg⟩ = .ok b s:=by
    cases hl:Nat.blt id bH<;>simp only[hl,cond_true,cond_false] at q ⊢<;>exact q
   obtain⟨rd',wr',u,u1,u2⟩:=NM.ap bH lim (k B) h n _ _ b s q' (cond (Nat.blt id lim) (ins id rd) rd) wr
   refine⟨rd',wr',?_,fun c c1=>u1 c (by subst c;exact qM c1),u2⟩
   cases hl:Nat.blt id lim<;>simp only[hl,cond_true,cond_false] at u ⊢<;>exact u
 | .set id B k=>fun h n pR pg b s q rd wr=>by
  simp only[AP.run] at q ⊢
  cases hb:h.get id with
  |none=>rw[hb] at q;simp at q
  |some B'=>
   rw[hb] at q
   simp only at q
   have q':k.run bH ⟨h.set id (some B),n,pR,cond (Nat.blt id bH) (ins id pg) pg⟩ = .ok b s:=by
    cases hl:Nat.blt id bH<;>simp only[hl,cond_true,cond_false] at q ⊢<;>exact q
   obtain⟨rd',wr',u,u1,u2⟩:=NM.ap bH lim k (h.set id (some B)) n _ _ b s q' rd (cond (Nat.blt id lim) (ins id wr) wr)
   refine⟨rd',wr',?_,u1,fun c c1=>u2 c (by subst c;exact qM c1)⟩
   cases hl:Nat.blt id lim<;>simp only[hl,cond_true,cond_false] at u ⊢<;>exact u
 | .kill id k=>fun h n pR pg b s q rd wr=>by
  simp only[AP.run] at q ⊢
  cases hb:h.get id with
  |none=>rw[hb] at q;simp at q
  |some B'=>
   rw[hb] at q
   simp only at q
   have q':k.run bH ⟨h.set id none,n,pR,cond (Nat.blt id bH) (ins id pg) pg⟩ = .ok b s:=by
    cases hl:Nat.blt id bH<;>simp only[hl,cond_true,cond_false] at q ⊢<;>exact q
   obtain⟨rd',wr',u,u1,u2⟩:=NM.ap bH lim k (h.set id none) n _ _ b s q' rd (cond (Nat.blt id lim) (ins id wr) wr)
   refine⟨rd',wr',?_,u1,fun c c1=>u2 c (by subst c;exact qM c1)⟩
   cases hl:Nat.blt id lim<;>simp only[hl,cond_true,cond_false] at u ⊢<;>exact u
 | .new B k=>fun h n pR pg b s q rd wr=>by
  simp only[AP.run] at q ⊢
  exact NM.ap bH lim (k n) (h.set n (some B)) (n+1) _ _ b s q rd wr
section
variable {P:Program} {O:Over} {bH lim:Nat}
def x9 (bH lim:Nat) (ev:iA):Prop:=∀ ro c m,NM (bH=lim) (fun s=>ev ro bH c m s) (fun s=>ev ro lim c m s)
variable {ev:iA}
theorem kr:∀ l,NM (bH=lim) (dF bH l) (dF lim l)
 | [] => .ok _
 |d::r=>(NM.ap bH lim (kI d)).bz fun _=>kr r
theorem iM (m:Tm):∀ l,NM (bH=lim) (bP P bH m l) (bP P lim m l)
 | [] => .ok _
 | .tmp t::r=>(iM m r).bz fun l => .ok (m.get t::l)
 | .cell a t::r=>(NM.ap bH lim (dN P t (m.get a))).bz fun v=>(iM m r).bz fun l => .ok (v::l)
theorem zz (rs:List ResultVar) (x:bp×Tm):NM (bH=lim) (gK P bH rs x) (gK P lim rs x):=by
 unfold gK
 cases x.1 with
 |exit id=>exact .fail _ _
 |normal=>exact(kr _).bz fun _=>(iM _ _).bz fun _ => .ok _
 |ret=>exact(kr _).bz fun _=>(iM _ _).bz fun _ => .ok _
theorem qN (h:x9 bH lim ev) (f:FuncId) (args:List Value):NM (bH=lim) (eP P ev bH f args) (eP P ev lim f args):=by
 unfold eP
 cases P.funcs[f]? with
 |none=>exact .fail _ _
 |some fn=>
  simp only
  cases fn.body with
  |none=>exact .fail _ _
  |some c=>exact(h _ _ _).bz fun _=>zz _ _
theorem vU (h:x9 bH lim ev) (f:FuncId) (args:List Value):NM (bH=lim) (dO P O ev bH f args) (dO P O ev lim f args):=by
 unfold dO
 cases O f args with
 |none=>exact qN h f args
 |some m=>exact NM.ap _ _ m
theorem zA (h:x9 bH lim ev) (l:Nat) (m:Tm) (as bd:Code):NM (bH=lim) (dU ev bH l m as bd) (dU ev lim l m as bd):=by
 unfold dU
 refine(h _ _ _).bz fun x=>?_
 cases x.1 with
 |normal=>exact(NM.ap _ _ _).bz fun _=>(h _ _ _).bz fun _=>NM.ap _ _ _
 |exit i=>exact .fail _ _
 |ret=>exact .fail _ _
theorem B_ (h:x9 bH lim ev) (x:aC):NM (bH=lim) (ep P O ev bH x) (ep P O ev lim x):=by
 cases x with
 |value v=>exact .ok _
 |skip=>exact .ok _
 |enter f args=>exact vU h f args
 |round l m as bd=>exact zA h l m as bd
theorem EV (m:Tm) (d:Option Nat) (v:Value) {e:Prop}:NM e (gT m d v) (gT m d v):=by
 unfold gT
 cases m.put d v with
 |none=>exact .fail _ _
 |some m=>exact .ok _
theorem IL (h:x9 bH lim ev) (ops:List Oper) (o:Oper) (m:Tm):NM (bH=lim) (kE P O ev bH ops o m) (kE P O ev lim ops o m):=by
 unfold kE
 refine NM.bz ?_ fun v=>EV m _ v
 cases bM ops m o with
 |false=>exact .ok _
 |true=>
  show NM _ (gS P O ev bH m.eval o) (gS P O ev lim m.eval o)
  unfold gS
  cases o.op.operands.toList.all aW with
  |false=>exact .fail _ _
  |true=>exact(NM.ap _ _ _).bz fun x=>B_ h x
theorem zB (h:x9 bH lim ev) (ops:List Oper):∀ (r:List Oper) (m:Tm),NM (bH=lim) (gp P O ev bH ops r m) (gp P O ev lim ops r m)
 | [],m => .ok _
 |o::r,m=>(IL h ops o m).bz fun m=>zB h ops r m
theorem pS {lim:Nat} {l a b:List Nat} (h:Sub a b):Sub (below lim l a) (below lim l b):=fun x hx=>(gX l b x).2 (((gX l a x).1 hx).imp (fun c=>c) (h x))
theorem sO {lim:Nat}:∀ (fs:List bD) (s:HS),(aK lim fs s).heap=s.heap∧(aK lim fs s).next=s.next
 | [],s=>⟨rfl,rfl⟩
 |f::fs,s=>sO fs _
theorem jN {lim:Nat}:∀ (fs:List bD) (s s':HS),(Sub s.rd s'.rd→Sub (aK lim fs s).rd (aK lim fs s').rd)∧(Sub s.wr s'.wr→Sub (aK lim fs s).wr (aK lim fs s').wr)
 | [],s,s'=>⟨fun h=>h,fun h=>h⟩
 |f::fs,s,s'=>⟨fun h=>(jN fs _ _).1 (pS h),fun h=>(jN fs _ _).2 (pS h)⟩
theorem Ca (ops:List Oper) (m:Tm):NM (bH=lim) (dV P O ev bH ops m) (dV P O ev lim ops m):=by
 intro H n pR pg a s e rd wr
 unfold dV at e ⊢
 cases hd:fY ops (aO (aM [] ops) ops.length) with
 |false=>rw[hd] at e;simp at e
 |true=>
  rw[hd] at e
  simp only[cond_true] at e ⊢
  obtain⟨x,s₁,e₁,e₂⟩:=aU e
  have vP:gq P O ev ops ops m H n = .ok x s₁:=e₁
  cases hf:cB x.2 (aO (aM [] ops) ops.length) with
  |false=>rw[hf] at e₂;simp at e₂
  |true=>
   rw[hf] at e₂
   simp only[cond_true,aS.ok.injEq] at e₂
   obtain⟨rfl,e₂⟩:=e₂
   rw[show gq P O ev ops ops m (⟨H,n,rd,wr⟩:HS).heap (⟨H,n,rd,wr⟩:HS).next = .ok x s₁ from vP,aL]
   simp only[hf,cond_true]
   have hh:∀ l (r w:List Nat),(cond (Nat.beq l 0) (⟨s₁.heap,s₁.next,r,w⟩:HS) (aK l x.2 ⟨s₁.heap,s₁.next,r,w⟩)).heap=s₁.heap∧(cond (Nat.beq l 0) (⟨s₁.heap,s₁.next,r,w⟩:HS) (aK l x.2 ⟨s₁.heap,s₁.next,r,w⟩)).next=s₁.next:=fun l r w=>by
    cases Nat.beq l 0 with
    |true=>exact⟨rfl,rfl⟩
    |false=>exact sO x.2 ⟨s₁.heap,s₁.next,r,w⟩
   have h1:=hh lim rd wr
   have h0:=hh bH pR pg
   rw[e₂] at h0
   have eta:∀ X:HS,X.heap=s₁.heap→X.next=s₁.next→X=⟨s.heap,s.next,X.rd,X.wr⟩:=fun X a b=>by rw[h0.1,h0.2,←a,←b]
   refine⟨_,_,congrArg (aS.ok x.1) (show _=(⟨s.heap,s.next,(cond (Nat.beq lim 0) (⟨s₁.heap,s₁.next,rd,wr⟩:HS) (aK lim x.2 ⟨s₁.heap,s₁.next,rd,wr⟩)).rd,(cond (Nat.beq lim 0) (⟨s₁.heap,s₁.next,rd,wr⟩:HS) (aK lim x.2 ⟨s₁.heap,s₁.next,rd,wr⟩)).wr⟩:HS) from ?_),fun c c1=>?_,fun c c1=>?_⟩
   ·exact eta _ h1.1 h1.2
   ·subst c
    rw[←e₂]
    cases Nat.beq bH 0 with
    |true=>exact c1
    |false=>exact(jN x.2 ⟨s₁.heap,s₁.next,rd,wr⟩ ⟨s₁.heap,s₁.next,pR,pg⟩).1 c1
   ·subst c
    rw[←e₂]
    cases Nat.beq bH 0 with
    |true=>exact c1
    |false=>exact(jN x.2 ⟨s₁.heap,s₁.next,rd,wr⟩ ⟨s₁.heap,s₁.next,pR,pg⟩).2 c1
theorem zC (h:x9 bH lim ev) (ro:Option Nat) (g:Operand) (ps:List Tmp) (as bd:Code) (m:Tm):NM (bH=lim) (dW P O ev ro bH g ps as bd m) (dW P O ev ro lim g ps as bd m):=by
 unfold dW
 cases aW g with
 |false=>exact .fail _ _
 |true=>exact(NM.ap _ _ _).bz fun ld=>(NM.ap _ _ _).bz fun fa=>(vU h _ _).bz fun _=>(NM.ap _ _ _).bz fun _ => .ok _
theorem Cb (h:x9 bH lim ev):x9 bH lim (a_ P O ev):=by
 intro ro c m
 cases c with
 |skip=>exact .ok _
 |label l=>exact .ok _
 |region id ops draw=>
  simp only[a_]
  refine NM.bz ?_ fun _ => .ok _
  cases draw with
  |true=>exact Ca _ _
  |false=>exact zB h _ _ _
 |seq a b=>
  simp only[a_]
  refine(h _ _ _).bz fun x=>?_
  cases x.1 with
  |normal=>exact h _ _ _
  |exit i=>exact .ok _
  |ret=>exact .ok _
 |cond c a b=>
  simp only[a_]
  cases aW c with
  |false=>exact .fail _ _
  |true=>
   simp only[cond_true]
   generalize m.eval c=z
   cases z with
   |bool t=>cases t<;>exact h _ _ _
   | _=>exact .fail _ _
 |block id c=>
  simp only[a_]
  refine(h _ _ _).bz fun x=>?_
  cases x.1<;>exact .ok _
 |loop c=>
  simp only[a_]
  refine(h _ _ _).bz fun x=>?_
  cases x.1 with
  |normal=>exact h _ _ _
  |exit i=>exact .ok _
  |ret=>exact .ok _
 |exit id=>exact .ok _
 |scope c=>exact h _ _ _
 |ret=>exact .ok _
 |rangeFunc g ps as bd=>exact zC h _ _ _ _ _ _
 |goto l=>exact .fail _ _
 |refuse w=>exact .fail _ _
theorem u5:∀ k,x9 bH lim (jg P O k)
 |0=>fun ro c m => .fail _ _
 |k+1=>Cb (u5 k)
end
section
variable (P:Program) (O:Over)
def jv (ev:iA) (lo:Nat) (x:aC) (s:HS):aS Value:=
 match x with
 | .value v => .ok v s
 | .skip => .ok fW s
 | .enter f args=>match O f args with
  |some p=>p.note s
  |none=>eP P ev lo f args s
 | .round .. => .fail "a round within a region that draws"
def EW (ev:iA) (lo:Nat) (ops:List Oper) (o:Oper) (m:Tm) (s:HS):aS Tm:=
 bz (cond (bM ops m o) (cond (o.op.operands.toList.all aW) (bz ((gO P m.eval o).note s) (jv P O ev lo)) (.fail "")) (.ok fW s)) fun v s=>gT m o.dst v s
def lM (ev:iA) (ops:List Oper):List Oper→Tm→PT ak→Nat→List bD→aS (Tm×List bD)
 | [],m,h,n,fs => .ok (m,fs) (S0 h n)
 |o::r,m,h,n,fs=>bz (EW P O ev n ops o m ⟨h,n,[],[]⟩) fun m s=>lM ev ops r m s.heap s.next (⟨n,s.next,s.rd,s.wr⟩::fs)
variable {P} {O}
theorem EX {ev:iA} {lim:Nat} (cL:x9 lim lim ev) {ops:List Oper} {o:Oper} {m m':Tm} {h:PT ak} {n:Nat} {s':HS} (e:EW P O ev lim ops o m ⟨h,n,[],[]⟩ = .ok m' s'):
  ∃ rd wr,kE P O ev lim ops o m ⟨h,n,[],[]⟩ = .ok m' ⟨s'.heap,s'.next,rd,wr⟩∧(∀ i∈rd,i∈s'.rd)∧(∀ i∈wr,i∈s'.wr):=by
 unfold EW at e
 obtain⟨v,s₁,e₁,e₂⟩:=aU e
 have put:∀ rd wr,∃ m'',gT m o.dst v ⟨s₁.heap,s₁.next,rd,wr⟩ = .ok m'' ⟨s₁.heap,s₁.next,rd,wr⟩∧m''=m'∧s₁=s':=by
  intro rd wr
  unfold gT at e₂ ⊢
  cases hp:m.put o.dst v with
  |none=>rw[hp] at e₂;simp at e₂
  |some m₁=>rw[hp] at e₂;simp only[aS.ok.injEq] at e₂;exact⟨m₁,rfl,e₂.1,e₂.2⟩
 unfold kE
 cases hw:bM ops m o with
 |false=>
  rw[hw] at e₁
  simp only[cond_false,aS.ok.injEq] at e₁
  obtain⟨rfl,rfl⟩:=e₁
  obtain⟨_,q,rfl,rfl⟩:=put [] []
  exact⟨[],[],by simp only[cond_false,aL];exact q,fun i hi=>hi,fun i hi=>hi⟩
 |true=>
  rw[hw] at e₁
  simp only[cond_true] at e₁
  cases hf:o.op.operands.toList.all aW with
  |false=>rw[hf] at e₁;simp at e₁
  |true=>
   rw[hf] at e₁
   simp only[cond_true] at e₁
   obtain⟨x,s₂,e₃,e₄⟩:=aU e₁
   obtain⟨rd,wr,q,q1,q2⟩:=g9 lim _ _ _ _ e₃ [] [] (fun i hi=>by simp at hi) (fun i hi=>by simp at hi)
   have next:∃ rd' wr',ep P O ev lim x ⟨s₂.heap,s₂.next,rd,wr⟩ = .ok v ⟨s₁.heap,s₁.next,rd',wr'⟩∧(∀ i∈rd',i∈s₁.rd)∧(∀ i∈wr',i∈s₁.wr):=by
    cases x with
    |value u=>simp only[jv,aS.ok.injEq] at e₄;obtain⟨rfl,rfl⟩:=e₄;exact⟨rd,wr,rfl,q1,q2⟩
    |skip=>simp only[jv,aS.ok.injEq] at e₄;obtain⟨rfl,rfl⟩:=e₄;exact⟨rd,wr,rfl,q1,q2⟩
    |enter f args=>
     simp only[jv] at e₄
     cases hO:O f args with
     |none=>
      rw[hO] at e₄
      obtain⟨rd',wr',u,u1,u2⟩:=qN cL f args s₂.heap s₂.next s₂.rd s₂.wr v s₁ e₄ rd wr
      exact⟨rd',wr',by simp only[ep,dO,hO];exact u,u1 rfl q1,u2 rfl q2⟩
     |some p=>
      rw[hO] at e₄
      obtain⟨rd',wr',u,u1,u2⟩:=g9 lim _ _ _ _ e₄ rd wr q1 q2
      exact⟨rd',wr',by simp only[ep,dO,hO];exact u,u1,u2⟩
    |round l m as bd=>simp[jv] at e₄
   obtain⟨rd',wr',u,u1,u2⟩:=next
   obtain⟨_,q3,rfl,rfl⟩:=put rd' wr'
   refine⟨rd',wr',?_,u1,u2⟩
   simp only[cond_true,gS,hf,q,aL,u]
   exact q3
structure ni (f g:bD):Prop where
 lo:f.lo=g.lo
 hi:f.hi=g.hi
 rd:∀ i∈f.rd,i∈g.rd
 wr:∀ i∈f.wr,i∈g.wr
inductive ga:List bD→List bD→Prop
 |nil:ga [] []
 |cons (f g:bD) (l l':List bD) (h:ni f g) (t:ga l l'):ga (f::l) (g::l')
theorem ga.get:∀ {l l':List bD},ga l l'→∀ i:Nat,(l[i]? = none∧l'[i]? = none)∨∃ f g,l[i]? = some f∧l'[i]? = some g∧ni f g
 | _,_,.nil,i => .inl ⟨rfl,rfl⟩
 | _,_,.cons f g l l' h t,0 => .inr ⟨f,g,rfl,rfl,h⟩
 | _,_,.cons f g l l' h t,i+1=>by simpa using t.get i
theorem lN {a b a' b':List Nat} (h1:∀ i∈a,i∈a') (h2:∀ i∈b,i∈b') (h:meets a' b'=false):meets a b=false:=by
 cases hm:meets a b with
 |false=>rfl
 |true=>
  simp only[meets,List.any_eq_true] at hm
  obtain⟨x,hx,y,hy,hxy⟩:=hm
  have:meets a' b'=true:=by
   simp only[meets,List.any_eq_true]
   exact⟨x,h1 x hx,y,h2 y hy,hxy⟩
  rw[h] at this
  exact absurd this (by decide)
theorem jw {a a':List Nat} {lo hi:Nat} (h1:∀ i∈a,i∈a') (h:bt a' lo hi=false):bt a lo hi=false:=by
 cases hm:bt a lo hi with
 |false=>rfl
 |true=>
  simp only[bt,List.any_eq_true] at hm
  obtain⟨x,hx,hxy⟩:=hm
  have:bt a' lo hi=true:=by
   simp only[bt,List.any_eq_true]
   exact⟨x,h1 x hx,hxy⟩
  rw[h] at this
  exact absurd this (by decide)
theorem xl {f g f' g':bD} (h1:ni f f') (h2:ni g g') (h:gx f' g'=false):gx f g=false:=by
 unfold gx at*
 simp only[Bool.or_eq_false_iff] at h ⊢
 obtain⟨⟨⟨⟨a,b⟩,c⟩,d⟩,e⟩:=h
 rw[h1.lo,h1.hi]
 exact⟨⟨⟨⟨lN h1.wr h2.wr a,lN h1.wr h2.rd b⟩,lN h1.rd h2.wr c⟩,jw h2.rd d⟩,jw h2.wr e⟩
theorem sP {l l':List bD} (h:ga l l') {L:List (Nat×Nat)} (k:cB l' L=true):cB l L=true:=by
 unfold cB at*
 rw[List.all_eq_true] at k ⊢
 intro p hp
 have:=k p hp
 rcases h.get p.1 with ⟨a,b⟩ | ⟨f,g,a,b,c⟩
 ·simp[a,b] at this
 ·rcases h.get p.2 with ⟨a',b'⟩ | ⟨f',g',a',b',c'⟩
  ·simp[a,b,a',b'] at this
  ·simp only[a,b,a',b'] at this ⊢
   simp only[Bool.not_eq_true'] at this ⊢
   exact xl c c' this
theorem sQ {ev:iA} (cL:∀ lim,x9 lim lim ev) {ops:List Oper}:∀ (r:List Oper) {m m':Tm} {h:PT ak} {n:Nat} {fs fs':List bD} {s':HS},lM P O ev ops r m h n fs = .ok (m',fs') s'→
  ∃ F G,gq P O ev ops r m h n = .ok (m',F) s'∧fs'=G.reverse++fs∧ga F G∧s'=S0 s'.heap s'.next
 | [],m,m',h,n,fs,fs',s',e=>by
  simp only[lM,aS.ok.injEq,Prod.mk.injEq] at e
  obtain⟨⟨rfl,rfl⟩,rfl⟩:=e
  exact⟨[],[],rfl,rfl,.nil,rfl⟩
 |o::r,m,m',h,n,fs,fs',s',e=>by
  simp only[lM] at e
  obtain⟨m₁,s₁,e₁,e₂⟩:=aU e
  obtain⟨rd,wr,q,q1,q2⟩:=EX (cL n) e₁
  obtain⟨F,G,u,rfl,u1,u2⟩:=sQ cL r e₂
  refine⟨⟨n,s₁.next,rd,wr⟩::F,⟨n,s₁.next,s₁.rd,s₁.wr⟩::G,?_,by simp,.cons _ _ _ _ ⟨rfl,rfl,q1,q2⟩ u1,u2⟩
  simp only[gq,q,aL,u]
end
section rules
variable {z:Zx} {K:List KF} {m:Tm} {h:PT ak} {n:Nat}
def zD (z:Zx) (L:List (Nat×Nat)) (ops r:List Oper) (K:List KF) (m:Tm) (h:PT ak) (n:Nat) (fs:List bD):Prop:=
 m.n=z.N∧∃ k m' fs' h' n',lM z.P z.O (jg z.P z.O k) ops r m h n fs = .ok (m',fs') (S0 h' n')∧cB fs'.reverse L=true∧Rs z K .normal m' h' n'
def jx (z:Zx) (L:List (Nat×Nat)) (p:AP aC) (d:Option Nat) (ops r:List Oper) (K:List KF) (m:Tm) (h:PT ak) (n lo:Nat) (rd wr:List Nat) (fs:List bD):Prop:=
 m.n=z.N∧∃ k m' fs' h' n',bz (p.note ⟨h,n,rd,wr⟩) (fun x s=>bz (jv z.P z.O (jg z.P z.O k) lo x s) fun v s=>bz (gT m d v s) fun m s=>lM z.P z.O (jg z.P z.O k) ops r m s.heap s.next (⟨lo,s.next,s.rd,s.wr⟩::fs)) = .ok (m',fs') (S0 h' n')∧
  cB fs'.reverse L=true∧Rs z K .normal m' h' n'
theorem aG {id:Nat} {ops:Array Oper} {L:List (Nat×Nat)} (hL:aO (aM [] ops.toList) ops.toList.length=L) (hd:fY ops.toList L=true) (e:zD z L ops.toList ops.toList K m h n []):
  ec z (.region id ops true) K m h n:=by
 obtain⟨hm,k,m',fs',h',n',e,hf,r⟩:=e
 refine⟨hm,k+1,(.normal,m'),h',n',?_,r⟩
 obtain⟨F,G,q,rfl,q1,_⟩:=sQ (fun lim=>u5 k) _ e
 rw[bO]
 simp only[a_,cond_true]
 have:dV z.P z.O (jg z.P z.O k) 0 ops.toList m (S0 h n) = .ok m' (S0 h' n'):=by
  unfold dV
  simp only[hL,hd,cond_true]
  rw[show (S0 h n).heap=h from rfl,show (S0 h n).next=n from rfl,q]
  simp only[aL]
  rw[sP q1 (by simpa using hf)]
  rfl
 rw[this]
 rfl
theorem Cc {L:List (Nat×Nat)} {ops:List Oper} {fs:List bD}:zD z L ops [] K m h n fs↔cB fs.reverse L=true∧Rs z K .normal m h n:=by
 constructor
 ·rintro ⟨hm,k,m',fs',h',n',e,hf,r⟩
  simp only[lM,aS.ok.injEq,Prod.mk.injEq,S0,HS.mk.injEq] at e
  obtain⟨⟨rfl,rfl⟩,rfl,rfl,_⟩:=e
  exact⟨hf,r⟩
 ·rintro ⟨hf,r⟩
  exact⟨qJ r,0,m,fs,h,n,rfl,hf,r⟩
def gQ (z:Zx) (L:List (Nat×Nat)) (w:Bool) (o:Oper) (ops r:List Oper) (K:List KF) (m:Tm) (h:PT ak) (n:Nat) (fs:List bD):Prop:=
 cond w (o.op.operands.toList.all aW=true∧jx z L (gO z.P m.eval o) o.dst ops r K m h n n [] [] fs) (jx z L (.pure .skip) o.dst ops r K m h n n [] [] fs)
theorem zE {L:List (Nat×Nat)} {o:Oper} {ops r:List Oper} {fs:List bD}:zD z L ops (o::r) K m h n fs↔gQ z L (bM ops m o) o ops r K m h n fs:=by
 unfold gQ
 cases hw:bM ops m o with
 |false=>
  simp only[cond_false]
  refine and_congr_right fun hm=>?_
  simp only[lM,EW,hw,cond_false,AP.note,aL,jv]
 |true=>
  simp only[cond_true]
  constructor
  ·rintro ⟨hm,k,m',fs',h',n',e,r⟩
   simp only[lM,EW,hw,cond_true] at e
   cases hf:o.op.operands.toList.all aW with
   |false=>rw[hf] at e;simp[bz] at e
   |true=>
    rw[hf] at e
    simp only[cond_true,fN] at e
    exact⟨rfl,hm,k,m',fs',h',n',e,r⟩
  ·rintro ⟨hf,hm,k,m',fs',h',n',e,r⟩
   refine⟨hm,k,m',fs',h',n',?_,r⟩
   simp only[lM,EW,hw,cond_true,hf,fN]
   exact e
variable {L:List (Nat×Nat)} {d:Option Nat} {ops r:List Oper} {lo:Nat} {rd wr:List Nat} {fs:List bD}
theorem zF {o:Oper}:gQ z L true o ops r K m h n fs↔o.op.operands.toList.all aW=true∧jx z L (gO z.P m.eval o) o.dst ops r K m h n n [] [] fs:=Iff.rfl
theorem xm {o:Oper}:gQ z L false o ops r K m h n fs↔jx z L (.pure .skip) o.dst ops r K m h n n [] [] fs:=Iff.rfl
theorem pT {i:Nat} {v:Value}:jx z L (.pure (.value v)) (some i) ops r K m h n lo rd wr fs↔i<z.N∧zD z L ops r K (up m i v) h n (⟨lo,n,rd,wr⟩::fs):=by
 unfold jx zD
 simp only[AP.note,aL,jv,gT,Tm.put,ER]
 constructor
 ·rintro ⟨hm,k,m',fs',h',n',e,q⟩
  cases hb:Nat.blt i m.n with
  |false=>rw[hb] at e;simp[bz] at e
  |true=>
   rw[hb] at e
   have:=Nat.le_of_ble_eq_true hb
   exact⟨by omega,hm,k,m',fs',h',n',e,q⟩
 ·rintro ⟨hi,hm,k,m',fs',h',n',e,q⟩
  have hb:Nat.blt i m.n=true:=Nat.ble_eq_true_of_le (by omega)
  exact⟨hm,k,m',fs',h',n',by rw[hb];exact e,q⟩
theorem u6 {v:Value}:jx z L (.pure (.value v)) none ops r K m h n lo rd wr fs↔zD z L ops r K m h n (⟨lo,n,rd,wr⟩::fs):=Iff.rfl
theorem zG {i:Nat}:jx z L (.pure .skip) (some i) ops r K m h n lo rd wr fs↔i<z.N∧zD z L ops r K (up m i fW) h n (⟨lo,n,rd,wr⟩::fs):=pT (v:=fW)
theorem xp:jx z L (.pure .skip) none ops r K m h n lo rd wr fs↔zD z L ops r K m h n (⟨lo,n,rd,wr⟩::fs):=Iff.rfl
theorem zH {w:String}:jx z L (.fail w) d ops r K m h n lo rd wr fs↔False:=by
 constructor
 ·rintro ⟨_,k,m',fs',h',n',e,_⟩;simp[AP.note,bz] at e
 ·exact False.elim
def zI (z:Zx) (L:List (Nat×Nat)) (b:Option ak) (f:ak→AP aC) (d:Option Nat) (ops r:List Oper) (K:List KF) (m:Tm) (h:PT ak) (n lo:Nat) (rd wr:List Nat) (fs:List bD):Prop:=
 match b with
 |some b=>jx z L (f b) d ops r K m h n lo rd wr fs
 |none=>False
theorem Cd {id:Nat} {f:ak→AP aC}:jx z L (.get id f) d ops r K m h n lo rd wr fs↔zI z L (h.get id) f d ops r K m h n lo (id::rd) wr fs:=by
 unfold zI jx
 simp only[AP.note]
 cases hb:h.get id with
 |none=>simp[bz]
 |some b=>exact Iff.rfl
theorem xq {b:ak} {f:ak→AP aC}:zI z L (some b) f d ops r K m h n lo rd wr fs↔jx z L (f b) d ops r K m h n lo rd wr fs:=Iff.rfl
def u7 (z:Zx) (L:List (Nat×Nat)) (o:Option ak) (id:Nat) (b:Option ak) (p:AP aC) (d:Option Nat) (ops r:List Oper) (K:List KF) (m:Tm) (h:PT ak) (n lo:Nat) (rd wr:List Nat) (fs:List bD):Prop:=
 match o with
 |some _=>jx z L p d ops r K m (h.set id b) n lo rd wr fs
 |none=>False
theorem Ce {id:Nat} {b:ak} {p:AP aC}:jx z L (.set id b p) d ops r K m h n lo rd wr fs↔u7 z L (h.get id) id (some b) p d ops r K m h n lo rd (id::wr) fs:=by
 unfold u7 jx
 simp only[AP.note]
 cases hb:h.get id with
 |none=>simp[bz]
 |some c=>exact Iff.rfl
theorem zJ {id:Nat} {p:AP aC}:jx z L (.kill id p) d ops r K m h n lo rd wr fs↔u7 z L (h.get id) id none p d ops r K m h n lo rd (id::wr) fs:=by
 unfold u7 jx
 simp only[AP.note]
 cases hb:h.get id with
 |none=>simp[bz]
 |some c=>exact Iff.rfl
theorem xu {c:ak} {id:Nat} {b:Option ak} {p:AP aC}:u7 z L (some c) id b p d ops r K m h n lo rd wr fs↔jx z L p d ops r K m (h.set id b) n lo rd wr fs:=Iff.rfl
theorem Cf {b:ak} {f:Nat→AP aC}:jx z L (.new b f) d ops r K m h n lo rd wr fs↔jx z L (f n) d ops r K m (h.set n (some b)) (n+1) lo rd wr fs:=Iff.rfl
theorem fO {α β:Type}:∀ (p:AP α) (f:α→AP β) (s:HS),(p.bind f).note s=bz (p.note s) fun a s=>(f a).note s
 | .pure a,f,s=>rfl
 | .fail w,f,s=>rfl
 | .get id k,f,s=>by
  simp only[AP.bind,AP.note]
  cases s.heap.get id with
  |none=>rfl
  |some b=>exact fO (k b) f _
 | .set id b k,f,s=>by
  simp only[AP.bind,AP.note]
  cases s.heap.get id with
  |none=>rfl
  |some _=>exact fO k f _
 | .kill id k,f,s=>by
  simp only[AP.bind,AP.note]
  cases s.heap.get id with
  |none=>rfl
  |some _=>exact fO k f _
 | .new b k,f,s=>by
  simp only[AP.bind,AP.note]
  exact fO (k s.next) f _
def xw (z:Zx) (L:List (Nat×Nat)) (s:Option (AP Value)) (f:FuncId) (args:List Value) (d:Option Nat) (ops r:List Oper) (K:List KF) (m:Tm) (h:PT ak) (n lo:Nat) (rd wr:List Nat) (fs:List bD):Prop:=
 match s with
 |some p=>jx z L (p.bind fun v => .pure (.value v)) d ops r K m h n lo rd wr fs
 |none=>jx z L (.pure (.enter f args)) d ops r K m h n lo rd wr fs
theorem xx {f:FuncId} {args:List Value}:jx z L (.pure (.enter f args)) d ops r K m h n lo rd wr fs↔xw z L (z.O f args) f args d ops r K m h n lo rd wr fs:=by
 unfold xw
 cases hO:z.O f args with
 |none=>exact Iff.rfl
 |some p=>simp only[jx,fO,fN,AP.note,aL,jv,hO]
theorem xy {p:AP Value} {f:FuncId} {args:List Value}:xw z L (some p) f args d ops r K m h n lo rd wr fs↔jx z L (p.bind fun v => .pure (.value v)) d ops r K m h n lo rd wr fs:=Iff.rfl
theorem pU {P:Program} {O:Over} {ev ev':iA} (hle:ot ev ev') {ops:List Oper}:∀ (r:List Oper) {m:Tm} {h:PT ak} {n:Nat} {fs:List bD} {x:Tm×List bD} {s':HS},lM P O ev ops r m h n fs = .ok x s'→lM P O ev' ops r m h n fs = .ok x s'
 | [],_,_,_,_,_,_,e=>e
 |o::r,m,h,n,fs,x,s',e=>by
  unfold lM at e ⊢
  refine br (fun a s q=>?_) (fun a s _ b s' q=>pU hle r q) e
  unfold EW at q ⊢
  refine br (fun a s q=>?_) (fun _ _ _ _ _ q=>q) q
  cases hw:bM ops m o with
  |false=>rw[hw] at q;exact q
  |true=>
   rw[hw] at q
   simp only[cond_true] at q ⊢
   cases hf:o.op.operands.toList.all aW with
   |false=>rw[hf] at q;simp at q
   |true=>
    rw[hf] at q
    simp only[cond_true] at q ⊢
    refine br (fun _ _ q=>q) (fun a s _ b s' q=>?_) q
    cases a with
    |value v=>exact q
    |skip=>exact q
    |round l m as bd=>exact q
    |enter f args=>
     simp only[jv] at q ⊢
     cases hO:O f args with
     |none=>rw[hO] at q;exact jM hle q
     |some p=>rw[hO] at q;exact q
theorem zK {f:FuncId} {args:List Value} {k:Nat} {v:Value} {h':PT ak} {n':Nat} (hm:m.n=z.N) (hO:z.O f args=none) (e:eP z.P (jg z.P z.O k) 0 f args (S0 h n) = .ok v (S0 h' n')) (hk:∀ rd' wr',jx z L (.pure (.value v)) d ops r K m h' n' lo rd' wr' fs):
  jx z L (.pure (.enter f args)) d ops r K m h n lo rd wr fs:=by
 obtain⟨rd',wr',u,-,-⟩:=qN (lim:=lo) (u5 k) f args h n [] [] v (S0 h' n') e rd wr
 obtain⟨_,k2,m',fs',h2,n2,e2,q⟩:=hk rd' wr'
 refine⟨hm,max k k2,m',fs',h2,n2,?_,q⟩
 simp only[AP.note,aL,jv,hO] at e2 ⊢
 rw[jM (eS (Nat.le_max_left k k2)) u,aL]
 exact br (fun _ _ q=>q) (fun a s _ b s' q=>pU (eS (Nat.le_max_right k k2)) r q) e2
end rules
end Go.Am
set_option linter.unusedSimpArgs false
set_option linter.unusedVariables false
namespace Go.Am
open Go.RowKit
def gN (P:Program) (O:Over) (f:FuncId) (args:List Value) (h:PT ak) (n:Nat) (R:Value→PT ak→Nat→Prop):Prop:=
 ∃ k v h' n',eP P (jg P O k) 0 f args (S0 h n) = .ok v (S0 h' n')∧R v h' n'
def Cg (P:Program) (t:TypeId) (x:Value) (h:PT ak):Option Value:=match (dN P t x).run 0 (S0 h 0) with
 | .ok v _=>some v
 | .fail _=>none
def g_ (P:Program) (m:Tm) (h:PT ak):List ResultVar→Option (List Value)
 | []=>some []
 | .tmp t::r=>match g_ P m h r with
  |some l=>some (m.get t::l)
  |none=>none
 | .cell a t::r=>match Cg P t (m.get a) h with
  |some v=>match g_ P m h r with
   |some l=>some (v::l)
   |none=>none
  |none=>none
theorem zL {P:Program} {t:TypeId} {x:Value} {h:PT ak} {v:Value} (n:Nat) (e:Cg P t x h=some v):(dN P t x).run 0 (S0 h n) = .ok v (S0 h n):=by
 have key:∀ n,(dN P t x).run 0 (S0 h n)=match Cg P t x h with |some v => .ok v (S0 h n) |none=>(dN P t x).run 0 (S0 h n):=by
  intro n
  unfold Cg dN
  split
  ·rename_i a i d _ _
   simp only[AP.run,show ∀ m,(S0 h m).heap=h from fun _=>rfl]
   cases h.get a.block with
   |none=>rfl
   |some b=>
    simp only[show Nat.blt a.block 0=false from rfl,cond_false]
    cases b<;>first |rfl |skip
    rename_i c ro
    cases isAgg d with
    |false=>simp only[cond_false];cases c.get a.off<;>rfl
    |true=>simp only[cond_true];cases aP c a.off i.size<;>rfl
  ·rfl
 rw[key n,e]
theorem nj {P:Program} {m:Tm} {h:PT ak} {n:Nat}:∀ {rs:List ResultVar} {l:List Value},g_ P m h rs=some l→bP P 0 m rs (S0 h n) = .ok l (S0 h n)
 | [],l,e=>by simp only[g_,Option.some.injEq] at e;subst e;rfl
 | .tmp t::r,l,e=>by
  simp only[g_] at e
  cases hr:g_ P m h r with
  |none=>rw[hr] at e;simp at e
  |some l'=>
   rw[hr] at e
   simp only[Option.some.injEq] at e
   subst e
   show bz (bP P 0 m r (S0 h n)) _=_
   rw[nj hr];rfl
 | .cell a t::r,l,e=>by
  simp only[g_] at e
  cases hv:Cg P t (m.get a) h with
  |none=>rw[hv] at e;simp at e
  |some v=>
   rw[hv] at e
   cases hr:g_ P m h r with
   |none=>rw[hr] at e;simp at e
   |some l'=>
    rw[hr] at e
    simp only[Option.some.injEq] at e
    subst e
    show bz ((dN P t (m.get a)).run 0 (S0 h n)) _=_
    rw[zL n hv]
    show bz (bP P 0 m r (S0 h n)) _=_
    rw[nj hr];rfl
def Fin (P:Program) (rs:List ResultVar) (R:Value→PT ak→Nat→Prop) (e:bp) (m:Tm) (h:PT ak) (n:Nat):Prop:=
 (match e with | .exit _=>False | _=>True)∧m.gn=[]∧∃ l,g_ P m h rs=some l∧R (oneOf l) h n
theorem EY {P:Program} {O:Over} {f:FuncId} {fn:Func} {c:Code} {args:List Value} {h:PT ak} {n:Nat} {R:Value→PT ak→Nat→Prop} (hf:P.funcs[f]? = some fn) (hb:fn.body=some c)
  (H:∀ z:Zx,z.P=P→z.O=O→z.ro=none→z.N=args.length+(fn.ntmps-args.length)→z.Q=Fin P fn.results.toList R→ec z c [] ⟨args.length+(fn.ntmps-args.length),PT.ofList .leaf 0 args,[]⟩ h n):gN P O f args h n R:=by
 obtain⟨_,k,x,h',n',e,hx⟩:=H ⟨P,O,none,args.length+(fn.ntmps-args.length),Fin P fn.results.toList R⟩ rfl rfl rfl rfl rfl
 obtain⟨_,hx,hd,l,hl,hR⟩:_∧Fin P fn.results.toList R x.1 x.2 h' n':=hx
 refine⟨k,oneOf l,h',n',?_,hR⟩
 simp only[eP,hf,hb]
 rw[e,aL]
 unfold gK
 rw[hd]
 cases hx1:x.1 with
 |exit i=>rw[hx1] at hx;exact hx.elim
 |normal=>simp only[dF,aL];rw[nj hl];rfl
 |ret=>simp only[dF,aL];rw[nj hl];rfl
mutual
inductive ef (I:Nat→Nat→Prop) (Old:Value→Prop):Value→Value→Prop
 |old (v:Value) (h:Old v):ef I Old v v
 |bool (b:Bool):ef I Old (.bool b) (.bool b)
 |int (k:IntKind) (n:Int):ef I Old (.int k n) (.int k n)
 |string (s:ByteArray):ef I Old (.string s) (.string s)
 |ez:ef I Old (.pointer none) (.pointer none)
 |ptr (b off b':Nat) (h:I b b'):ef I Old (.pointer (some ⟨b,off,none⟩)) (.pointer (some ⟨b',off,none⟩))
 |nilslice (n c:Nat):ef I Old (.slice none n c) (.slice none n c)
 |slice (b off n c b':Nat) (h:I b b'):ef I Old (.slice (some ⟨b,off,none⟩) n c) (.slice (some ⟨b',off,none⟩) n c)
 |eA:ef I Old (.map none) (.map none)
 |map (r r':Nat) (h:I r r'):ef I Old (.map (some r)) (.map (some r'))
 |func (f:FuncId) (x x' y y':List Value) (hx:bK I Old x x') (hy:bK I Old y y'):ef I Old (.func (.func f) ⟨x⟩ ⟨y⟩) (.func (.func f) ⟨x'⟩ ⟨y'⟩)
 |dG:ef I Old .nilFunc .nilFunc
 |iface (t:TypeId) (v v':Value) (h:ef I Old v v'):ef I Old (.iface t v) (.iface t v')
 |b8:ef I Old .nilIface .nilIface
 |agg (l l':List Value) (h:bK I Old l l'):ef I Old (.agg ⟨l⟩) (.agg ⟨l'⟩)
 |tuple (l l':List Value) (h:bK I Old l l'):ef I Old (.tuple ⟨l⟩) (.tuple ⟨l'⟩)
inductive bK (I:Nat→Nat→Prop) (Old:Value→Prop):List Value→List Value→Prop
 |nil:bK I Old [] []
 |cons (v v':Value) (l l':List Value) (h:ef I Old v v') (t:bK I Old l l'):bK I Old (v::l) (v'::l')
end
theorem bK.get {I:Nat→Nat→Prop} {Old:Value→Prop}:∀ {l l':List Value} (_:bK I Old l l') {i:Nat} {v:Value},l[i]? = some v→∃ v',l'[i]? = some v'∧ef I Old v v'
 | _,_,.nil,i,v,e=>by simp at e
 | _,_,.cons _ v' _ _ h t,0,v,e=>by simp at e;subst e;exact⟨v',rfl,h⟩
 | _,_,.cons _ _ _ _ h t,i+1,v,e=>by simp at e;simpa using bK.get t e
theorem bK.refl {I:Nat→Nat→Prop} {Old:Value→Prop}:∀ (l:List Value),(∀ v∈l,ef I Old v v)→bK I Old l l
 | [],_ => .nil
 |v::l,h => .cons _ _ _ _ (h v (by simp)) (bK.refl l fun y hy=>h y (by simp[hy]))
theorem bK.append {I:Nat→Nat→Prop} {Old:Value→Prop}:∀ {l l' m m':List Value},bK I Old l l'→bK I Old m m'→bK I Old (l++m) (l'++m')
 | _,_,_,_,.nil,k=>k
 | _,_,_,_,.cons _ _ _ _ h t,k => .cons _ _ _ _ h (t.append k)
mutual
theorem ef.rel {I:Nat→Nat→Prop} {Old:Value→Prop} {Γ aH:aT} (hI:∀ j j',I j j'→aH.blk j=Γ.blk j') (hO:∀ v,Old v→∀ u,ay Γ v u→ay aH v u) (hz:aH.eu=Γ.eu):
  ∀ {v v' u:Value},ef I Old v v'→ay Γ v' u→ay aH v u
 | _,_,_,.old v h,r=>hO v h _ r
 | _,_,_,.bool b,.bool _ => .bool b
 | _,_,_,.int k n,.int _ _ => .int k n
 | _,_,_,.string s,.string _ => .string s
 | _,_,_,.ez,.ez => .ez
 | _,_,_,.ptr b off b' h,.ptr _ a' ha => .ptr _ a' ⟨rfl,ha.spot',let ⟨s,e,o⟩:=ha.at_;⟨s,(hI _ _ h).trans e,o⟩⟩
 | _,_,_,.nilslice n c,.nilslice _ _ => .nilslice n c
 | _,_,_,.slice b off n c b' h,.slice _ a' _ _ c' ha hc=>by
  refine .slice _ a' n c c' ?_ ?_
  ·rcases ha with ha | ⟨h1,h2,h3,s,h4⟩ |hz
   ·exact .inl ⟨rfl,ha.spot',let ⟨s,e,o⟩:=ha.at_;⟨s,(hI _ _ h).trans e,o⟩⟩
   ·exact .inr (.inl ⟨h1,h2,h3,s,(hI _ _ h).trans h4⟩)
   ·exact .inr (.inr hz)
  ·unfold aT.cap at hc ⊢
   rw[hz];exact hc
 | _,_,_,.eA,.eA => .eA
 | _,_,_,.map r r' h,.map _ u hu => .map _ u ((hI _ _ h).trans hu)
 | _,_,_,.func f x x' y y' hx hy,.func _ fn' _ a _ b ha hb hp=>by
  refine .func _ fn' _ a _ b (bK.rel hI hO hz hx ha) (bK.rel hI hO hz hy hb) ?_
  cases hp with
  |plain _ hp=>exact .plain _ hp
 | _,_,_,.dG,.dG => .dG
 | _,_,_,.iface t v v' h,.iface _ _ u hu => .iface t v u (ef.rel hI hO hz h hu)
 | _,_,_,.b8,.b8 => .b8
 | _,_,_,.agg l l' h,.agg _ u hu => .agg l u (bK.rel hI hO hz h hu)
 | _,_,_,.tuple l l' h,.tuple _ u hu => .tuple l u (bK.rel hI hO hz h hu)
theorem bK.rel {I:Nat→Nat→Prop} {Old:Value→Prop} {Γ aH:aT} (hI:∀ j j',I j j'→aH.blk j=Γ.blk j') (hO:∀ v,Old v→∀ u,ay Γ v u→ay aH v u) (hz:aH.eu=Γ.eu):
  ∀ {l l' u:List Value},bK I Old l l'→aB Γ l' u→aB aH l u
 | _,_,_,.nil,.nil => .nil
 | _,_,_,.cons _ _ _ _ h t,.cons _ _ _ _ hu tu => .cons _ _ _ _ (ef.rel hI hO hz h hu) (bK.rel hI hO hz t tu)
end
mutual
theorem ay.down {Γ b_:aT} (hle:Γ.le b_):∀ {v xA u:Value},ay Γ v xA→ay b_ v u→ay Γ v u
 | _,_,_,.bool b,.bool _ => .bool b
 | _,_,_,.int k n,.int _ _ => .int k n
 | _,_,_,.float k n,.float _ _ => .float k n
 | _,_,_,.complex k n m,.complex _ _ _ => .complex k n m
 | _,_,_,.string s,.string _ => .string s
 | _,_,_,.ez,.ez => .ez
 | _,_,_,.ptr a a₀ h₀,.ptr _ a' ha => .ptr a a' ⟨ha.spot,ha.spot',by
   obtain⟨s,e,o⟩:=ha.at_
   obtain⟨s₀,e₀,_⟩:=h₀.at_
   have:=hle.blk _ _ e₀
   rw[e] at this
   obtain⟨h1,rfl⟩:a'.block=a₀.block∧s=s₀:=by simpa using this
   exact⟨s,by rw[h1];exact e₀,o⟩⟩
 | _,_,_,.nilslice n c,.nilslice _ _ => .nilslice n c
 | _,_,_,.slice a a₀ n c c₀ h₀ k₀,.slice _ a' _ _ c' ha hc=>by
  by_cases hz:n=0∧c=0
  ·obtain⟨rfl,rfl⟩:=hz
   refine .slice a a' 0 0 c' (.inr (.inr ⟨rfl,rfl⟩)) ?_
   unfold aT.cap at hc ⊢
   rw[if_neg (by unfold az;omega)] at hc ⊢
   exact hc
  obtain⟨s₀,e₀⟩:∃ s,Γ.blk a.block=some (a₀.block,s):=by
   rcases h₀ with h₀ |h₀ |h₀
   ·obtain⟨s,e,_⟩:=h₀.at_;exact⟨s,e⟩
   ·exact h₀.2.2.2
   ·exact absurd h₀ hz
  have e₂:=hle.blk _ _ e₀
  refine .slice a a' n c c' ?_ ?_
  ·rcases ha with ha | ⟨h1,h2,h3,s,h4⟩ |ha
   rotate_left 2
   ·exact absurd ha hz
   ·refine .inl ⟨ha.spot,ha.spot',?_⟩
    obtain⟨s,e,o⟩:=ha.at_
    rw[e] at e₂
    obtain⟨h1,rfl⟩:a'.block=a₀.block∧s=s₀:=by simpa using e₂
    exact⟨s,by rw[h1];exact e₀,o⟩
   ·refine .inr (.inl ⟨h1,h2,h3,s,?_⟩)
    rw[h4] at e₂
    obtain⟨h1,rfl⟩:a'.block=a₀.block∧s=s₀:=by simpa using e₂
    rw[h1];exact e₀
  ·unfold aT.cap at hc k₀ ⊢
   split
   ·rename_i hi
    have hb:a'.block=a₀.block:=by
     obtain⟨s,e⟩:=ha.block (by unfold az at hi;omega)
     rw[e] at e₂
     exact(by simpa using e₂:a'.block=a₀.block∧s=s₀).1
    rw[if_pos hi] at hc k₀
    obtain⟨h1,M,h2,h3⟩:=hc
    obtain⟨_,Oq,h4,_⟩:=k₀
    have:=hle.eu _ _ h4
    rw[←hb,h2] at this
    obtain rfl:M=Oq:=by simpa using this
    exact⟨h1,M,by rw[hb];exact h4,h3⟩
   ·rename_i hi
    rw[if_neg hi] at hc
    exact hc
 | _,_,_,.eA,.eA => .eA
 | _,_,_,.map r r₀ h₀,.map _ r' h=>by
  have:=hle.blk _ _ h₀
  rw[h] at this
  obtain rfl:r'=r₀:=by simpa using this
  exact .map _ _ h₀
 | _,_,_,.kJ,.kJ => .kJ
 | _,_,_,.func fn _ f _ c _ hf hc hp,.func _ _ _ _ _ _ hf' Dr Wc=>by
  refine .func _ _ _ _ _ _ (aB.down hle hf hf') (aB.down hle hc Dr) ?_
  cases Wc with
  |plain _ h=>exact .plain _ h
  |yield l l' h=>
   cases hp with
   |plain _ h'=>exact absurd rfl (h' l)
   |yield _ l₀ h₀=>
    have:=hle.blk _ _ h₀
    rw[h] at this
    obtain rfl:l'=l₀:=by simpa using this
    exact .yield _ _ h₀
 | _,_,_,.dG,.dG => .dG
 | _,_,_,.iface t v _ h,.iface _ _ _ h' => .iface t v _ (ay.down hle h h')
 | _,_,_,.b8,.b8 => .b8
 | _,_,_,.agg l _ h,.agg _ _ h' => .agg l _ (aB.down hle h h')
 | _,_,_,.tuple l _ h,.tuple _ _ h' => .tuple l _ (aB.down hle h h')
theorem aB.down {Γ b_:aT} (hle:Γ.le b_):∀ {l xA u:List Value},aB Γ l xA→aB b_ l u→aB Γ l u
 | _,_,_,.nil,.nil => .nil
 | _,_,_,.cons _ _ _ _ h t,.cons _ _ _ _ h' t' => .cons _ _ _ _ (ay.down hle h h') (aB.down hle t t')
end
inductive pV (I:Nat→Nat→Prop) (Old:Value→Prop):List (Value×Value×Nat)→List (Value×Value×Nat)→Prop
 |nil:pV I Old [] []
 |cons (p q:Value×Value×Nat) (l l':List (Value×Value×Nat)) (hk:ef I Old p.1 q.1) (hv:ef I Old p.2.1 q.2.1) (hb:p.2.2=q.2.2) (t:pV I Old l l'):pV I Old (p::l) (q::l')
theorem pV.rel {I:Nat→Nat→Prop} {Old:Value→Prop} {Γ aH:aT} (hI:∀ j j',I j j'→aH.blk j=Γ.blk j') (hO:∀ v,Old v→∀ u,ay Γ v u→ay aH v u) (hz:aH.eu=Γ.eu):
  ∀ {l l':List (Value×Value×Nat)} {u:List MapEntry},pV I Old l l'→bq Γ l' u→bq aH l u
 | _,_,_,.nil,.nil => .nil
 | _,_,_,.cons _ _ _ _ hk hv hb t,.cons _ _ _ _ hk' Il hb' t' => .cons _ _ _ _ (hk.rel hI hO hz hk') (hv.rel hI hO hz Il) (hb.trans hb') (t.rel hI hO hz t')
inductive u9 (I:Nat→Nat→Prop) (Old:Value→Prop):ak→ak→Prop
 |cells (l l':List Value) (ro:Bool) (h:bK I Old l l'):u9 I Old (.cells (PT.ofList .leaf 0 l) ro) (.cells (PT.ofList .leaf 0 l') ro)
 |map (es es':List (Value×Value×Nat)) (clk:Nat) (h:pV I Old es es'):u9 I Old (.map es clk) (.map es' clk)
theorem u9.rel {I:Nat→Nat→Prop} {Old:Value→Prop} {Γ aH:aT} {w:World} (hI:∀ j j',I j j'→aH.blk j=Γ.blk j') (hO:∀ v,Old v→∀ u,ay Γ v u→ay aH v u) (hz:aH.eu=Γ.eu) {B B':ak} {b s:Nat}
  (h:u9 I Old B B') (r:iB Γ w B' b s):iB aH w B b s:=by
 cases h with
 |cells l l' ro h=>
  obtain⟨cs,el,fz,h1,h2,h3⟩:=r
  refine⟨cs,el,fz,h1,h2,fun i v e=>?_⟩
  rw[PT.aF] at e
  obtain⟨v',e',q⟩:=h.get e
  obtain⟨u,e₂,q₂⟩:=h3 i v' (by rw[PT.aF];exact e')
  exact⟨u,e₂,q.rel hI hO hz q₂⟩
 |map es es' clk h=>
  obtain⟨h0,aJ,h1,h2⟩:=r
  exact⟨h0,aJ,h1,h.rel hI hO hz h2⟩
theorem u9.bI {I:Nat→Nat→Prop} {Old:Value→Prop} {B B':ak} (h:u9 I Old B B'):B.bI↔B'.bI:=by cases h<;>exact Iff.rfl
theorem bq.down {Γ b_:aT} (hle:Γ.le b_):∀ {l:List (Value×Value×Nat)} {xA u:List MapEntry},bq Γ l xA→bq b_ l u→bq Γ l u
 | _,_,_,.nil,.nil => .nil
 | _,_,_,.cons _ _ _ _ hk hv hb t,.cons _ _ _ _ hk' Il hb' t' => .cons _ _ _ _ (ay.down hle hk hk') (ay.down hle hv Il) hb' (bq.down hle t t')
theorem iB.down {Γ b_:aT} (hle:Γ.le b_) {w w₂:World} {B:ak} {b s:Nat} (h₀:iB Γ w B b s) (h:iB b_ w₂ B b s):iB Γ w₂ B b s:=by
 cases B with
 |cells c ro=>
  obtain⟨RU,RV,RW,_,_,zM⟩:=h₀
  obtain⟨cs,el,fz,h1,h2,h3⟩:=h
  refine⟨cs,el,fz,h1,h2,fun i v e=>?_⟩
  obtain⟨xA,_,Ot⟩:=zM i v e
  obtain⟨u,e',q⟩:=h3 i v e
  exact⟨u,e',ay.down hle Ot q⟩
 |map es clk=>
  obtain⟨_,KN,_,IP⟩:=h₀
  obtain⟨h0,aJ,h1,h2⟩:=h
  exact⟨h0,aJ,h1,bq.down hle IP h2⟩
 |iter m since seen stepped=>
  obtain⟨_,m₀,_,_,zM⟩:=h₀
  obtain⟨h0,m',h1,h2,h3⟩:=h
  refine⟨h0,m',h1,h2,fun r hr=>?_⟩
  obtain⟨r₀,_,e₀⟩:=zM r hr
  obtain⟨r',e',e⟩:=h3 r hr
  have:=hle.blk _ _ e₀
  rw[e] at this
  obtain rfl:r'=r₀:=by simpa using this
  exact⟨r',e',e₀⟩
 |loop st eM tm ps as bd=>
  obtain⟨_,Wd,_,_,_,ht₀,_⟩:=h₀
  obtain⟨h0,L,h1,h2,h3,ht,h5⟩:=h
  exact⟨h0,L,h1,h2,h3,⟨ht.size,fun i=>ay.down hle (ht₀.get i) (ht.get i)⟩,h5⟩
 |deferred=>exact h
end Go.Am
