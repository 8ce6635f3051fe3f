/-
  A part of the proof: contracts of inner functions.
-/
import Derived.Test.YtofmbmclopgldaaGreatAmX3
set_option linter.unusedSimpArgs false
set_option linter.unusedVariables false
namespace Go.Am
def AP.note {α:Type}:AP α→HS→aH α
 | .pure a,s => .ok a s
 | .fail why,_ => .fail why
 | .get id k,s=>match s.heap.get id with
  |none => .fail "get"
  |some b=>(k b).note { s with rd:=id::s.rd }
 | .set id b k,s=>match s.heap.get id with
  |none => .fail "set"
  |some _=>k.note { s with heap:=s.heap.set id (some b),wr:=id::s.wr }
 | .kill id k,s=>match s.heap.get id with
  |none => .fail "kill"
  |some _=>k.note { s with heap:=s.heap.set id none,wr:=id::s.wr }
 | .new b k,s=>(k s.next).note { s with heap:=s.heap.set s.next (some b),next:=Nat.succ s.next }
theorem ku {id:Nat} {l l':List Nat} (hl:∀ i∈l,i∈l') {i:Nat} (hi:i∈cond true (ins id l) l):i∈id::l':=by
 simp only[cond_true,ins] at hi
 cases ha:l.any (Nat.beq id) with
 |true=>rw[ha] at hi;exact List.mem_cons_of_mem _ (hl i hi)
 |false=>
  rw[ha] at hi
  rcases List.mem_cons.1 hi with rfl |hi
  ·exact List.mem_cons_self
  ·exact List.mem_cons_of_mem _ (hl i hi)
theorem eM {α:Type} (lim:Nat):∀ (p:AP α) (s:HS) (a:α) (s':HS),p.note s = .ok a s'→∀ rd wr,(∀ i∈rd,i∈s.rd)→(∀ i∈wr,i∈s.wr)→
  ∃ rd' wr',p.run lim ⟨s.heap,s.next,rd,wr⟩ = .ok a ⟨s'.heap,s'.next,rd',wr'⟩∧(∀ i∈rd',i∈s'.rd)∧(∀ i∈wr',i∈s'.wr)
 | .pure a,s,b,s',e,rd,wr,h1,h2=>by
  simp only[AP.note,aH.ok.injEq] at e
  obtain⟨rfl,rfl⟩:=e
  exact⟨rd,wr,rfl,h1,h2⟩
 | .fail w,s,b,s',e,rd,wr,h1,h2=>by simp[AP.note] at e
 | .get id k,s,b,s',e,rd,wr,h1,h2=>by
  simp only[AP.note] at e
  cases hb:s.heap.get id with
  |none=>rw[hb] at e;simp at e
  |some B=>
   rw[hb] at e
   simp only at e
   have:=eM lim (k B) _ b s' e (cond (Nat.blt id lim) (ins id rd) rd) wr (fun i hi=>?_) h2
   ·obtain⟨rd',wr',q,q1,q2⟩:=this
    refine⟨rd',wr',?_,q1,q2⟩
    simp only[AP.run,hb]
    cases hl:Nat.blt id lim<;>simp only[hl,cond_true,cond_false] at q ⊢<;>exact q
   ·cases hl:Nat.blt id lim with
    |false=>rw[hl] at hi;exact List.mem_cons_of_mem _ (h1 i hi)
    |true=>
     rw[hl] at hi
     exact ku h1 hi
 | .set id c k,s,b,s',e,rd,wr,h1,h2=>by
  simp only[AP.note] at e
  cases hb:s.heap.get id with
  |none=>rw[hb] at e;simp at e
  |some B=>
   rw[hb] at e
   simp only at e
   have:=eM lim k _ b s' e rd (cond (Nat.blt id lim) (ins id wr) wr) h1 (fun i hi=>?_)
   ·obtain⟨rd',wr',q,q1,q2⟩:=this
    refine⟨rd',wr',?_,q1,q2⟩
    simp only[AP.run,hb]
    cases hl:Nat.blt id lim<;>simp only[hl,cond_true,cond_false] at q ⊢<;>exact q
   ·cases hl:Nat.blt id lim with
    |false=>rw[hl] at hi;exact List.mem_cons_of_mem _ (h2 i hi)
    |true=>
     rw[hl] at hi
     exact ku h2 hi
 | .kill id k,s,b,s',e,rd,wr,h1,h2=>by
  simp only[AP.note] at e
  cases hb:s.heap.get id with
  |none=>rw[hb] at e;simp at e
  |some B=>
   rw[hb] at e
   simp only at e
   have:=eM lim k _ b s' e rd (cond (Nat.blt id lim) (ins id wr) wr) h1 (fun i hi=>?_)
   ·obtain⟨rd',wr',q,q1,q2⟩:=this
    refine⟨rd',wr',?_,q1,q2⟩
    simp only[AP.run,hb]
    cases hl:Nat.blt id lim<;>simp only[hl,cond_true,cond_false] at q ⊢<;>exact q
   ·cases hl:Nat.blt id lim with
    |false=>rw[hl] at hi;exact List.mem_cons_of_mem _ (h2 i hi)
    |true=>
     rw[hl] at hi
     exact ku h2 hi
 | .new c k,s,b,s',e,rd,wr,h1,h2=>by
  simp only[AP.note] at e
  exact eM lim (k s.next) _ b s' e rd wr h1 h2
def NM (e:Prop) {α:Type} (F0 F:HS→aH α):Prop:=∀ h n uO uq a s,F0 ⟨h,n,uO,uq⟩ = .ok a s→∀ rd wr,∃ rd' wr',F ⟨h,n,rd,wr⟩ = .ok a ⟨s.heap,s.next,rd',wr'⟩∧(e→Sub rd uO→Sub rd' s.rd)∧(e→Sub wr uq→Sub wr' s.wr)
theorem NM.bH {e:Prop} {α β:Type} {F0 F:HS→aH α} {k0 k:α→HS→aH β} (hF:NM e F0 F) (hk:∀ a,NM e (k0 a) (k a)):NM e (fun s=>bH (F0 s) k0) (fun s=>bH (F s) k):=by
 intro h n uO uq b s q rd wr
 obtain⟨a,s₁,q1,q2⟩:=bq q
 obtain⟨rd',wr',u,u1,u2⟩:=hF h n uO uq a s₁ q1 rd wr
 obtain⟨rd2,wr2,v,v1,v2⟩:=hk a s₁.heap s₁.next s₁.rd s₁.wr b s q2 rd' wr'
 exact⟨rd2,wr2,by show Go.Am.bH _ _=_;rw[u,aM];exact v,fun c c1=>v1 c (u1 c c1),fun c c1=>v2 c (u2 c c1)⟩
theorem NM.ok {e:Prop} {α:Type} (a:α):NM e (fun s => .ok a s) (fun s => .ok a s):=fun h n uO uq b s q rd wr=>by
 simp only[aH.ok.injEq] at q
 obtain⟨rfl,rfl⟩:=q
 exact⟨rd,wr,rfl,fun _ c=>c,fun _ c=>c⟩
theorem NM.fail {e:Prop} {α:Type} (w:String) (F:HS→aH α):NM e (fun _=>(.fail w:aH α)) F:=fun h n uO uq b s q rd wr=>by simp at q
theorem wh {lim id:Nat} {l l':List Nat} (h:Sub l l'):Sub (cond (Nat.blt id lim) (ins id l) l) (cond (Nat.blt id lim) (ins id l') l'):=by
 cases Nat.blt id lim with
 |false=>exact h
 |true=>exact fun x hx=>fH.2 ((fH.1 hx).imp (fun c=>c) (h x))
theorem NM.ap {α:Type} (cu lim:Nat):∀ (p:AP α),NM (cu=lim) (fun s=>p.run cu s) (fun s=>p.run lim s)
 | .pure a=>fun h n uO uq b s q rd wr=>by
  simp only[AP.run,aH.ok.injEq] at q
  obtain⟨rfl,rfl⟩:=q
  exact⟨rd,wr,rfl,fun _ c=>c,fun _ c=>c⟩
 | .fail w=>fun h n uO uq b s q rd wr=>by simp[AP.run] at q
 | .get id k=>fun h n uO uq b s q rd wr=>by
  simp only[AP.run] at q ⊢
  cases hb:h.get id with
  |none=>rw[hb] at q;simp at q
  |some B=>
   rw[hb] at q
   simp only at q
   have e0:∀ l r w,(match Nat.blt id l with |true=>(⟨h,n,ins id r,w⟩:HS) |false=>⟨h,n,r,w⟩)=⟨h,n,cond (Nat.blt id l) (ins id r) r,w⟩:=fun l r w=>by cases Nat.blt id l<;>rfl
   have q':(k B).run cu ⟨h,n,cond (Nat.blt id cu) (ins id uO) uO,uq⟩ = .ok b s:=by
    cases hl:Nat.blt id cu<;>simp only[hl,cond_true,cond_false] at q ⊢<;>exact q
   obtain⟨rd',wr',u,u1,u2⟩:=NM.ap cu lim (k B) h n _ _ b s q' (cond (Nat.blt id lim) (ins id rd) rd) wr
   refine⟨rd',wr',?_,fun c c1=>u1 c (by subst c;exact wh c1),u2⟩
   cases hl:Nat.blt id lim<;>simp only[hl,cond_true,cond_false] at u ⊢<;>exact u
 | .set id B k=>fun h n uO uq b s q rd wr=>by
  simp only[AP.run] at q ⊢
  cases hb:h.get id with
  |none=>rw[hb] at q;simp at q
  |some B'=>
   rw[hb] at q
   simp only at q
   have q':k.run cu ⟨h.set id (some B),n,uO,cond (Nat.blt id cu) (ins id uq) uq⟩ = .ok b s:=by
    cases hl:Nat.blt id cu<;>simp only[hl,cond_true,cond_false] at q ⊢<;>exact q
   obtain⟨rd',wr',u,u1,u2⟩:=NM.ap cu lim k (h.set id (some B)) n _ _ b s q' rd (cond (Nat.blt id lim) (ins id wr) wr)
   refine⟨rd',wr',?_,u1,fun c c1=>u2 c (by subst c;exact wh c1)⟩
   cases hl:Nat.blt id lim<;>simp only[hl,cond_true,cond_false] at u ⊢<;>exact u
 | .kill id k=>fun h n uO uq b s q rd wr=>by
  simp only[AP.run] at q ⊢
  cases hb:h.get id with
  |none=>rw[hb] at q;simp at q
  |some B'=>
   rw[hb] at q
   simp only at q
   have q':k.run cu ⟨h.set id none,n,uO,cond (Nat.blt id cu) (ins id uq) uq⟩ = .ok b s:=by
    cases hl:Nat.blt id cu<;>simp only[hl,cond_true,cond_false] at q ⊢<;>exact q
   obtain⟨rd',wr',u,u1,u2⟩:=NM.ap cu lim k (h.set id none) n _ _ b s q' rd (cond (Nat.blt id lim) (ins id wr) wr)
   refine⟨rd',wr',?_,u1,fun c c1=>u2 c (by subst c;exact wh c1)⟩
   cases hl:Nat.blt id lim<;>simp only[hl,cond_true,cond_false] at u ⊢<;>exact u
 | .new B k=>fun h n uO uq b s q rd wr=>by
  simp only[AP.run] at q ⊢
  exact NM.ap cu lim (k n) (h.set n (some B)) (n+1) _ _ b s q rd wr
section
variable {P:Program} {O:Over} {cu lim:Nat}
def Eh (cu lim:Nat) (ev:fU):Prop:=∀ ro c m,NM (cu=lim) (fun s=>ev ro cu c m s) (fun s=>ev ro lim c m s)
variable {ev:fU}
theorem nT:∀ l,NM (cu=lim) (dO cu l) (dO lim l)
 | [] => .ok _
 |d::r=>(NM.ap cu lim (mI d)).bH fun _=>nT r
theorem kA (m:Tm):∀ l,NM (cu=lim) (b8 P cu m l) (b8 P lim m l)
 | [] => .ok _
 | .tmp t::r=>(kA m r).bH fun l => .ok (m.get t::l)
 | .cell a t::r=>(NM.ap cu lim (dX P t (m.get a))).bH fun v=>(kA m r).bH fun l => .ok (v::l)
theorem Fx (rs:List ResultVar) (x:aV×Tm):NM (cu=lim) (gI P cu rs x) (gI P lim rs x):=by
 unfold gI
 cases x.1 with
 |exit id=>exact .fail _ _
 |normal=>exact(nT _).bH fun _=>(kA _ _).bH fun _ => .ok _
 |ret=>exact(nT _).bH fun _=>(kA _ _).bH fun _ => .ok _
theorem wj (h:Eh cu lim ev) (f:FuncId) (args:List Value):NM (cu=lim) (fk P ev cu f args) (fk P ev lim f args):=by
 unfold fk
 cases P.funcs[f]? with
 |none=>exact .fail _ _
 |some fn=>
  simp only
  cases fn.body with
  |none=>exact .fail _ _
  |some c=>exact(h _ _ _).bH fun _=>Fx _ _
theorem BU (h:Eh cu lim ev) (f:FuncId) (args:List Value):NM (cu=lim) (eB P O ev cu f args) (eB P O ev lim f args):=by
 unfold eB
 cases O f args with
 |none=>exact wj h f args
 |some m=>exact NM.ap _ _ m
theorem Fy (h:Eh cu lim ev) (l:Nat) (m:Tm) (as bd:Code):NM (cu=lim) (fN ev cu l m as bd) (fN ev lim l m as bd):=by
 unfold fN
 refine(h _ _ _).bH fun x=>?_
 cases x.1 with
 |normal=>exact(NM.ap _ _ _).bH fun _=>(h _ _ _).bH fun _=>NM.ap _ _ _
 |exit i=>exact .fail _ _
 |ret=>exact .fail _ _
theorem JB (h:Eh cu lim ev) (x:aD):NM (cu=lim) (eC P O ev cu x) (eC P O ev lim x):=by
 cases x with
 |value v=>exact .ok _
 |skip=>exact .ok _
 |enter f args=>exact BU h f args
 |round l m as bd=>exact Fy h l m as bd
theorem ND (m:Tm) (d:Option Nat) (v:Value) {e:Prop}:NM e (iF m d v) (iF m d v):=by
 unfold iF
 cases m.put d v with
 |none=>exact .fail _ _
 |some m=>exact .ok _
theorem SJ (h:Eh cu lim ev) (ops:List Oper) (o:Oper) (m:Tm):NM (cu=lim) (kS P O ev cu ops o m) (kS P O ev lim ops o m):=by
 unfold kS
 refine NM.bH ?_ fun v=>ND m _ v
 cases bJ ops m o with
 |false=>exact .ok _
 |true=>
  show NM _ (iE P O ev cu m.eval o) (iE P O ev lim m.eval o)
  unfold iE
  cases o.op.operands.toList.all aX with
  |false=>exact .fail _ _
  |true=>exact(NM.ap _ _ _).bH fun x=>JB h x
theorem FA (h:Eh cu lim ev) (ops:List Oper):∀ (r:List Oper) (m:Tm),NM (cu=lim) (gX P O ev cu ops r m) (gX P O ev lim ops r m)
 | [],m => .ok _
 |o::r,m=>(SJ h ops o m).bH fun m=>FA h ops r m
theorem uP {lim:Nat} {l a b:List Nat} (h:Sub a b):Sub (below lim l a) (below lim l b):=fun x hx=>(jQ l b x).2 (((jQ l a x).1 hx).imp (fun c=>c) (h x))
theorem yt {lim:Nat}:∀ (fs:List bD) (s:HS),(aQ lim fs s).heap=s.heap∧(aQ lim fs s).next=s.next
 | [],s=>⟨rfl,rfl⟩
 |f::fs,s=>yt fs _
theorem mP {lim:Nat}:∀ (fs:List bD) (s s':HS),(Sub s.rd s'.rd→Sub (aQ lim fs s).rd (aQ lim fs s').rd)∧(Sub s.wr s'.wr→Sub (aQ lim fs s).wr (aQ lim fs s').wr)
 | [],s,s'=>⟨fun h=>h,fun h=>h⟩
 |f::fs,s,s'=>⟨fun h=>(mP fs _ _).1 (uP h),fun h=>(mP fs _ _).2 (uP h)⟩
theorem JC (ops:List Oper) (m:Tm):NM (cu=lim) (eD P O ev cu ops m) (eD P O ev lim ops m):=by
 intro H n uO uq a s e rd wr
 unfold eD at e ⊢
 cases hd:fO ops (aL (aO [] ops) ops.length) with
 |false=>rw[hd] at e;simp at e
 |true=>
  rw[hd] at e
  simp only[cond_true] at e ⊢
  obtain⟨x,s₁,e₁,e₂⟩:=bq e
  have BQ:gY P O ev ops ops m H n = .ok x s₁:=e₁
  cases hf:cG x.2 (aL (aO [] ops) ops.length) with
  |false=>rw[hf] at e₂;simp at e₂
  |true=>
   rw[hf] at e₂
   simp only[cond_true,aH.ok.injEq] at e₂
   obtain⟨rfl,e₂⟩:=e₂
   rw[show gY P O ev ops ops m (⟨H,n,rd,wr⟩:HS).heap (⟨H,n,rd,wr⟩:HS).next = .ok x s₁ from BQ,aM]
   simp only[hf,cond_true]
   have hh:∀ l (r w:List Nat),(cond (Nat.beq l 0) (⟨s₁.heap,s₁.next,r,w⟩:HS) (aQ l x.2 ⟨s₁.heap,s₁.next,r,w⟩)).heap=s₁.heap∧(cond (Nat.beq l 0) (⟨s₁.heap,s₁.next,r,w⟩:HS) (aQ l x.2 ⟨s₁.heap,s₁.next,r,w⟩)).next=s₁.next:=fun l r w=>by
    cases Nat.beq l 0 with
    |true=>exact⟨rfl,rfl⟩
    |false=>exact yt x.2 ⟨s₁.heap,s₁.next,r,w⟩
   have h1:=hh lim rd wr
   have h0:=hh cu uO uq
   rw[e₂] at h0
   have eta:∀ X:HS,X.heap=s₁.heap→X.next=s₁.next→X=⟨s.heap,s.next,X.rd,X.wr⟩:=fun X a b=>by rw[h0.1,h0.2,←a,←b]
   refine⟨_,_,congrArg (aH.ok x.1) (show _=(⟨s.heap,s.next,(cond (Nat.beq lim 0) (⟨s₁.heap,s₁.next,rd,wr⟩:HS) (aQ lim x.2 ⟨s₁.heap,s₁.next,rd,wr⟩)).rd,(cond (Nat.beq lim 0) (⟨s₁.heap,s₁.next,rd,wr⟩:HS) (aQ lim x.2 ⟨s₁.heap,s₁.next,rd,wr⟩)).wr⟩:HS) from ?_),fun c c1=>?_,fun c c1=>?_⟩
   ·exact eta _ h1.1 h1.2
   ·subst c
    rw[←e₂]
    cases Nat.beq cu 0 with
    |true=>exact c1
    |false=>exact(mP x.2 ⟨s₁.heap,s₁.next,rd,wr⟩ ⟨s₁.heap,s₁.next,uO,uq⟩).1 c1
   ·subst c
    rw[←e₂]
    cases Nat.beq cu 0 with
    |true=>exact c1
    |false=>exact(mP x.2 ⟨s₁.heap,s₁.next,rd,wr⟩ ⟨s₁.heap,s₁.next,uO,uq⟩).2 c1
theorem FB (h:Eh cu lim ev) (ro:Option Nat) (g:Operand) (ps:List Tmp) (as bd:Code) (m:Tm):NM (cu=lim) (eE P O ev ro cu g ps as bd m) (eE P O ev ro lim g ps as bd m):=by
 unfold eE
 cases aX g with
 |false=>exact .fail _ _
 |true=>exact(NM.ap _ _ _).bH fun ld=>(NM.ap _ _ _).bH fun fa=>(BU h _ _).bH fun _=>(NM.ap _ _ _).bH fun _ => .ok _
theorem JD (h:Eh cu lim ev):Eh cu lim (aY P O ev):=by
 intro ro c m
 cases c with
 |skip=>exact .ok _
 |label l=>exact .ok _
 |region id ops draw=>
  simp only[aY]
  refine NM.bH ?_ fun _ => .ok _
  cases draw with
  |true=>exact JC _ _
  |false=>exact FA h _ _ _
 |seq a b=>
  simp only[aY]
  refine(h _ _ _).bH fun x=>?_
  cases x.1 with
  |normal=>exact h _ _ _
  |exit i=>exact .ok _
  |ret=>exact .ok _
 |cond c a b=>
  simp only[aY]
  cases aX c with
  |false=>exact .fail _ _
  |true=>
   simp only[cond_true]
   generalize m.eval c=z
   cases z with
   |bool t=>cases t<;>exact h _ _ _
   | _=>exact .fail _ _
 |block id c=>
  simp only[aY]
  refine(h _ _ _).bH fun x=>?_
  cases x.1<;>exact .ok _
 |loop c=>
  simp only[aY]
  refine(h _ _ _).bH fun x=>?_
  cases x.1 with
  |normal=>exact h _ _ _
  |exit i=>exact .ok _
  |ret=>exact .ok _
 |exit id=>exact .ok _
 |scope c=>exact h _ _ _
 |ret=>exact .ok _
 |rangeFunc g ps as bd=>exact FB h _ _ _ _ _ _
 |goto l=>exact .fail _ _
 |refuse w=>exact .fail _ _
theorem AG:∀ k,Eh cu lim (jW P O k)
 |0=>fun ro c m => .fail _ _
 |k+1=>JD (AG k)
end
section
variable (P:Program) (O:Over)
def lQ (ev:fU) (lo:Nat) (x:aD) (s:HS):aH Value:=
 match x with
 | .value v => .ok v s
 | .skip => .ok cZ s
 | .enter f args=>match O f args with
  |some p=>p.note s
  |none=>fk P ev lo f args s
 | .round .. => .fail "a round within a region that draws"
def NF (ev:fU) (lo:Nat) (ops:List Oper) (o:Oper) (m:Tm) (s:HS):aH Tm:=
 bH (cond (bJ ops m o) (cond (o.op.operands.toList.all aX) (bH ((jk P m.eval o).note s) (lQ P O ev lo)) (.fail "")) (.ok cZ s)) fun v s=>iF m o.dst v s
def pK (ev:fU) (ops:List Oper):List Oper→Tm→PT ak→Nat→List bD→aH (Tm×List bD)
 | [],m,h,n,fs => .ok (m,fs) (S0 h n)
 |o::r,m,h,n,fs=>bH (NF P O ev n ops o m ⟨h,n,[],[]⟩) fun m s=>pK ev ops r m s.heap s.next (⟨n,s.next,s.rd,s.wr⟩::fs)
variable {P} {O}
theorem NG {ev:fU} {lim:Nat} (d_:Eh lim lim ev) {ops:List Oper} {o:Oper} {m m':Tm} {h:PT ak} {n:Nat} {s':HS} (e:NF P O ev lim ops o m ⟨h,n,[],[]⟩ = .ok m' s'):
  ∃ rd wr,kS P O ev lim ops o m ⟨h,n,[],[]⟩ = .ok m' ⟨s'.heap,s'.next,rd,wr⟩∧(∀ i∈rd,i∈s'.rd)∧(∀ i∈wr,i∈s'.wr):=by
 unfold NF at e
 obtain⟨v,s₁,e₁,e₂⟩:=bq e
 have put:∀ rd wr,∃ m'',iF m o.dst v ⟨s₁.heap,s₁.next,rd,wr⟩ = .ok m'' ⟨s₁.heap,s₁.next,rd,wr⟩∧m''=m'∧s₁=s':=by
  intro rd wr
  unfold iF at e₂ ⊢
  cases hp:m.put o.dst v with
  |none=>rw[hp] at e₂;simp at e₂
  |some m₁=>rw[hp] at e₂;simp only[aH.ok.injEq] at e₂;exact⟨m₁,rfl,e₂.1,e₂.2⟩
 unfold kS
 cases hw:bJ ops m o with
 |false=>
  rw[hw] at e₁
  simp only[cond_false,aH.ok.injEq] at e₁
  obtain⟨rfl,rfl⟩:=e₁
  obtain⟨_,q,rfl,rfl⟩:=put [] []
  exact⟨[],[],by simp only[cond_false,aM];exact q,fun i hi=>hi,fun i hi=>hi⟩
 |true=>
  rw[hw] at e₁
  simp only[cond_true] at e₁
  cases hf:o.op.operands.toList.all aX with
  |false=>rw[hf] at e₁;simp at e₁
  |true=>
   rw[hf] at e₁
   simp only[cond_true] at e₁
   obtain⟨x,s₂,e₃,e₄⟩:=bq e₁
   obtain⟨rd,wr,q,q1,q2⟩:=eM lim _ _ _ _ e₃ [] [] (fun i hi=>by simp at hi) (fun i hi=>by simp at hi)
   have next:∃ rd' wr',eC P O ev lim x ⟨s₂.heap,s₂.next,rd,wr⟩ = .ok v ⟨s₁.heap,s₁.next,rd',wr'⟩∧(∀ i∈rd',i∈s₁.rd)∧(∀ i∈wr',i∈s₁.wr):=by
    cases x with
    |value u=>simp only[lQ,aH.ok.injEq] at e₄;obtain⟨rfl,rfl⟩:=e₄;exact⟨rd,wr,rfl,q1,q2⟩
    |skip=>simp only[lQ,aH.ok.injEq] at e₄;obtain⟨rfl,rfl⟩:=e₄;exact⟨rd,wr,rfl,q1,q2⟩
    |enter f args=>
     simp only[lQ] at e₄
     cases hO:O f args with
     |none=>
      rw[hO] at e₄
      obtain⟨rd',wr',u,u1,u2⟩:=wj d_ f args s₂.heap s₂.next s₂.rd s₂.wr v s₁ e₄ rd wr
      exact⟨rd',wr',by simp only[eC,eB,hO];exact u,u1 rfl q1,u2 rfl q2⟩
     |some p=>
      rw[hO] at e₄
      obtain⟨rd',wr',u,u1,u2⟩:=eM lim _ _ _ _ e₄ rd wr q1 q2
      exact⟨rd',wr',by simp only[eC,eB,hO];exact u,u1,u2⟩
    |round l m as bd=>simp[lQ] at e₄
   obtain⟨rd',wr',u,u1,u2⟩:=next
   obtain⟨_,q3,rfl,rfl⟩:=put rd' wr'
   refine⟨rd',wr',?_,u1,u2⟩
   simp only[cond_true,iE,hf,q,aM,u]
   exact q3
structure ry (f g:bD):Prop where
 lo:f.lo=g.lo
 hi:f.hi=g.hi
 rd:∀ i∈f.rd,i∈g.rd
 wr:∀ i∈f.wr,i∈g.wr
inductive jd:List bD→List bD→Prop
 |nil:jd [] []
 |cons (f g:bD) (l l':List bD) (h:ry f g) (t:jd l l'):jd (f::l) (g::l')
theorem jd.get:∀ {l l':List bD},jd l l'→∀ i:Nat,(l[i]? = none∧l'[i]? = none)∨∃ f g,l[i]? = some f∧l'[i]? = some g∧ry f g
 | _,_,.nil,i => .inl ⟨rfl,rfl⟩
 | _,_,.cons f g l l' h t,0 => .inr ⟨f,g,rfl,rfl,h⟩
 | _,_,.cons f g l l' h t,i+1=>by simpa using t.get i
theorem pL {a b a' b':List Nat} (h1:∀ i∈a,i∈a') (h2:∀ i∈b,i∈b') (h:meets a' b'=false):meets a b=false:=by
 cases hm:meets a b with
 |false=>rfl
 |true=>
  simp only[meets,List.any_eq_true] at hm
  obtain⟨x,hx,y,hy,hxy⟩:=hm
  have:meets a' b'=true:=by
   simp only[meets,List.any_eq_true]
   exact⟨x,h1 x hx,y,h2 y hy,hxy⟩
  rw[h] at this
  exact absurd this (by decide)
theorem lR {a a':List Nat} {lo hi:Nat} (h1:∀ i∈a,i∈a') (h:bw a' lo hi=false):bw a lo hi=false:=by
 cases hm:bw a lo hi with
 |false=>rfl
 |true=>
  simp only[bw,List.any_eq_true] at hm
  obtain⟨x,hx,hxy⟩:=hm
  have:bw a' lo hi=true:=by
   simp only[bw,List.any_eq_true]
   exact⟨x,h1 x hx,hxy⟩
  rw[h] at this
  exact absurd this (by decide)
theorem Dk {f g f' g':bD} (h1:ry f f') (h2:ry g g') (h:gZ f' g'=false):gZ f g=false:=by
 unfold gZ at*
 simp only[Bool.or_eq_false_iff] at h ⊢
 obtain⟨⟨⟨⟨a,b⟩,c⟩,d⟩,e⟩:=h
 rw[h1.lo,h1.hi]
 exact⟨⟨⟨⟨pL h1.wr h2.wr a,pL h1.wr h2.rd b⟩,pL h1.rd h2.wr c⟩,lR h2.rd d⟩,lR h2.wr e⟩
theorem yu {l l':List bD} (h:jd l l') {L:List (Nat×Nat)} (k:cG l' L=true):cG l L=true:=by
 unfold cG at*
 rw[List.all_eq_true] at k ⊢
 intro p hp
 have:=k p hp
 rcases h.get p.1 with ⟨a,b⟩ | ⟨f,g,a,b,c⟩
 ·simp[a,b] at this
 ·rcases h.get p.2 with ⟨a',b'⟩ | ⟨f',g',a',b',c'⟩
  ·simp[a,b,a',b'] at this
  ·simp only[a,b,a',b'] at this ⊢
   simp only[Bool.not_eq_true'] at this ⊢
   exact Dk c c' this
theorem yw {ev:fU} (d_:∀ lim,Eh lim lim ev) {ops:List Oper}:∀ (r:List Oper) {m m':Tm} {h:PT ak} {n:Nat} {fs fs':List bD} {s':HS},pK P O ev ops r m h n fs = .ok (m',fs') s'→
  ∃ F G,gY P O ev ops r m h n = .ok (m',F) s'∧fs'=G.reverse++fs∧jd F G∧s'=S0 s'.heap s'.next
 | [],m,m',h,n,fs,fs',s',e=>by
  simp only[pK,aH.ok.injEq,Prod.mk.injEq] at e
  obtain⟨⟨rfl,rfl⟩,rfl⟩:=e
  exact⟨[],[],rfl,rfl,.nil,rfl⟩
 |o::r,m,m',h,n,fs,fs',s',e=>by
  simp only[pK] at e
  obtain⟨m₁,s₁,e₁,e₂⟩:=bq e
  obtain⟨rd,wr,q,q1,q2⟩:=NG (d_ n) e₁
  obtain⟨F,G,u,rfl,u1,u2⟩:=yw d_ r e₂
  refine⟨⟨n,s₁.next,rd,wr⟩::F,⟨n,s₁.next,s₁.rd,s₁.wr⟩::G,?_,by simp,.cons _ _ _ _ ⟨rfl,rfl,q1,q2⟩ u1,u2⟩
  simp only[gY,q,aM,u]
end
section rules
variable {z:Zx} {K:List KF} {m:Tm} {h:PT ak} {n:Nat}
def FC (z:Zx) (L:List (Nat×Nat)) (ops r:List Oper) (K:List KF) (m:Tm) (h:PT ak) (n:Nat) (fs:List bD):Prop:=
 m.n=z.N∧∃ k m' fs' h' n',pK z.P z.O (jW z.P z.O k) ops r m h n fs = .ok (m',fs') (S0 h' n')∧cG fs'.reverse L=true∧Rs z K .normal m' h' n'
def lS (z:Zx) (L:List (Nat×Nat)) (p:AP aD) (d:Option Nat) (ops r:List Oper) (K:List KF) (m:Tm) (h:PT ak) (n lo:Nat) (rd wr:List Nat) (fs:List bD):Prop:=
 m.n=z.N∧∃ k m' fs' h' n',bH (p.note ⟨h,n,rd,wr⟩) (fun x s=>bH (lQ z.P z.O (jW z.P z.O k) lo x s) fun v s=>bH (iF m d v s) fun m s=>pK z.P z.O (jW z.P z.O k) ops r m s.heap s.next (⟨lo,s.next,s.rd,s.wr⟩::fs)) = .ok (m',fs') (S0 h' n')∧
  cG fs'.reverse L=true∧Rs z K .normal m' h' n'
theorem aK {id:Nat} {ops:Array Oper} {L:List (Nat×Nat)} (hL:aL (aO [] ops.toList) ops.toList.length=L) (hd:fO ops.toList L=true) (e:FC z L ops.toList ops.toList K m h n []):
  fJ z (.region id ops true) K m h n:=by
 obtain⟨hm,k,m',fs',h',n',e,hf,r⟩:=e
 refine⟨hm,k+1,(.normal,m'),h',n',?_,r⟩
 obtain⟨F,G,q,rfl,q1,_⟩:=yw (fun lim=>AG k) _ e
 rw[cC]
 simp only[aY,cond_true]
 have:eD z.P z.O (jW z.P z.O k) 0 ops.toList m (S0 h n) = .ok m' (S0 h' n'):=by
  unfold eD
  simp only[hL,hd,cond_true]
  rw[show (S0 h n).heap=h from rfl,show (S0 h n).next=n from rfl,q]
  simp only[aM]
  rw[yu q1 (by simpa using hf)]
  rfl
 rw[this]
 rfl
theorem JE {L:List (Nat×Nat)} {ops:List Oper} {fs:List bD}:FC z L ops [] K m h n fs↔cG fs.reverse L=true∧Rs z K .normal m h n:=by
 constructor
 ·rintro ⟨hm,k,m',fs',h',n',e,hf,r⟩
  simp only[pK,aH.ok.injEq,Prod.mk.injEq,S0,HS.mk.injEq] at e
  obtain⟨⟨rfl,rfl⟩,rfl,rfl,_⟩:=e
  exact⟨hf,r⟩
 ·rintro ⟨hf,r⟩
  exact⟨vV r,0,m,fs,h,n,rfl,hf,r⟩
def jJ (z:Zx) (L:List (Nat×Nat)) (w:Bool) (o:Oper) (ops r:List Oper) (K:List KF) (m:Tm) (h:PT ak) (n:Nat) (fs:List bD):Prop:=
 cond w (o.op.operands.toList.all aX=true∧lS z L (jk z.P m.eval o) o.dst ops r K m h n n [] [] fs) (lS z L (.pure .skip) o.dst ops r K m h n n [] [] fs)
theorem FD {L:List (Nat×Nat)} {o:Oper} {ops r:List Oper} {fs:List bD}:FC z L ops (o::r) K m h n fs↔jJ z L (bJ ops m o) o ops r K m h n fs:=by
 unfold jJ
 cases hw:bJ ops m o with
 |false=>
  simp only[cond_false]
  refine and_congr_right fun hm=>?_
  simp only[pK,NF,hw,cond_false,AP.note,aM,lQ]
 |true=>
  simp only[cond_true]
  constructor
  ·rintro ⟨hm,k,m',fs',h',n',e,r⟩
   simp only[pK,NF,hw,cond_true] at e
   cases hf:o.op.operands.toList.all aX with
   |false=>rw[hf] at e;simp[bH] at e
   |true=>
    rw[hf] at e
    simp only[cond_true,eP] at e
    exact⟨rfl,hm,k,m',fs',h',n',e,r⟩
  ·rintro ⟨hf,hm,k,m',fs',h',n',e,r⟩
   refine⟨hm,k,m',fs',h',n',?_,r⟩
   simp only[pK,NF,hw,cond_true,hf,eP]
   exact e
variable {L:List (Nat×Nat)} {d:Option Nat} {ops r:List Oper} {lo:Nat} {rd wr:List Nat} {fs:List bD}
theorem FE {o:Oper}:jJ z L true o ops r K m h n fs↔o.op.operands.toList.all aX=true∧lS z L (jk z.P m.eval o) o.dst ops r K m h n n [] [] fs:=Iff.rfl
theorem Dl {o:Oper}:jJ z L false o ops r K m h n fs↔lS z L (.pure .skip) o.dst ops r K m h n n [] [] fs:=Iff.rfl
theorem uQ {i:Nat} {v:Value}:lS z L (.pure (.value v)) (some i) ops r K m h n lo rd wr fs↔i<z.N∧FC z L ops r K (up m i v) h n (⟨lo,n,rd,wr⟩::fs):=by
 unfold lS FC
 simp only[AP.note,aM,lQ,iF,Tm.put,Nz]
 constructor
 ·rintro ⟨hm,k,m',fs',h',n',e,q⟩
  cases hb:Nat.blt i m.n with
  |false=>rw[hb] at e;simp[bH] at e
  |true=>
   rw[hb] at e
   have:=Nat.le_of_ble_eq_true hb
   exact⟨by omega,hm,k,m',fs',h',n',e,q⟩
 ·rintro ⟨hi,hm,k,m',fs',h',n',e,q⟩
  have hb:Nat.blt i m.n=true:=Nat.ble_eq_true_of_le (by omega)
  exact⟨hm,k,m',fs',h',n',by rw[hb];exact e,q⟩
theorem AH {v:Value}:lS z L (.pure (.value v)) none ops r K m h n lo rd wr fs↔FC z L ops r K m h n (⟨lo,n,rd,wr⟩::fs):=Iff.rfl
theorem FF {i:Nat}:lS z L (.pure .skip) (some i) ops r K m h n lo rd wr fs↔i<z.N∧FC z L ops r K (up m i cZ) h n (⟨lo,n,rd,wr⟩::fs):=uQ (v:=cZ)
theorem Dm:lS z L (.pure .skip) none ops r K m h n lo rd wr fs↔FC z L ops r K m h n (⟨lo,n,rd,wr⟩::fs):=Iff.rfl
theorem FG {w:String}:lS z L (.fail w) d ops r K m h n lo rd wr fs↔False:=by
 constructor
 ·rintro ⟨_,k,m',fs',h',n',e,_⟩;simp[AP.note,bH] at e
 ·exact False.elim
def FH (z:Zx) (L:List (Nat×Nat)) (b:Option ak) (f:ak→AP aD) (d:Option Nat) (ops r:List Oper) (K:List KF) (m:Tm) (h:PT ak) (n lo:Nat) (rd wr:List Nat) (fs:List bD):Prop:=
 match b with
 |some b=>lS z L (f b) d ops r K m h n lo rd wr fs
 |none=>False
theorem JF {id:Nat} {f:ak→AP aD}:lS z L (.get id f) d ops r K m h n lo rd wr fs↔FH z L (h.get id) f d ops r K m h n lo (id::rd) wr fs:=by
 unfold FH lS
 simp only[AP.note]
 cases hb:h.get id with
 |none=>simp[bH]
 |some b=>exact Iff.rfl
theorem Dn {b:ak} {f:ak→AP aD}:FH z L (some b) f d ops r K m h n lo rd wr fs↔lS z L (f b) d ops r K m h n lo rd wr fs:=Iff.rfl
def AI (z:Zx) (L:List (Nat×Nat)) (o:Option ak) (id:Nat) (b:Option ak) (p:AP aD) (d:Option Nat) (ops r:List Oper) (K:List KF) (m:Tm) (h:PT ak) (n lo:Nat) (rd wr:List Nat) (fs:List bD):Prop:=
 match o with
 |some _=>lS z L p d ops r K m (h.set id b) n lo rd wr fs
 |none=>False
theorem JG {id:Nat} {b:ak} {p:AP aD}:lS z L (.set id b p) d ops r K m h n lo rd wr fs↔AI z L (h.get id) id (some b) p d ops r K m h n lo rd (id::wr) fs:=by
 unfold AI lS
 simp only[AP.note]
 cases hb:h.get id with
 |none=>simp[bH]
 |some c=>exact Iff.rfl
theorem FI {id:Nat} {p:AP aD}:lS z L (.kill id p) d ops r K m h n lo rd wr fs↔AI z L (h.get id) id none p d ops r K m h n lo rd (id::wr) fs:=by
 unfold AI lS
 simp only[AP.note]
 cases hb:h.get id with
 |none=>simp[bH]
 |some c=>exact Iff.rfl
theorem Dp {c:ak} {id:Nat} {b:Option ak} {p:AP aD}:AI z L (some c) id b p d ops r K m h n lo rd wr fs↔lS z L p d ops r K m (h.set id b) n lo rd wr fs:=Iff.rfl
theorem JH {b:ak} {f:Nat→AP aD}:lS z L (.new b f) d ops r K m h n lo rd wr fs↔lS z L (f n) d ops r K m (h.set n (some b)) (n+1) lo rd wr fs:=Iff.rfl
theorem iR {α β:Type}:∀ (p:AP α) (f:α→AP β) (s:HS),(p.bind f).note s=bH (p.note s) fun a s=>(f a).note s
 | .pure a,f,s=>rfl
 | .fail w,f,s=>rfl
 | .get id k,f,s=>by
  simp only[AP.bind,AP.note]
  cases s.heap.get id with
  |none=>rfl
  |some b=>exact iR (k b) f _
 | .set id b k,f,s=>by
  simp only[AP.bind,AP.note]
  cases s.heap.get id with
  |none=>rfl
  |some _=>exact iR k f _
 | .kill id k,f,s=>by
  simp only[AP.bind,AP.note]
  cases s.heap.get id with
  |none=>rfl
  |some _=>exact iR k f _
 | .new b k,f,s=>by
  simp only[AP.bind,AP.note]
  exact iR (k s.next) f _
def Dq (z:Zx) (L:List (Nat×Nat)) (s:Option (AP Value)) (f:FuncId) (args:List Value) (d:Option Nat) (ops r:List Oper) (K:List KF) (m:Tm) (h:PT ak) (n lo:Nat) (rd wr:List Nat) (fs:List bD):Prop:=
 match s with
 |some p=>lS z L (p.bind fun v => .pure (.value v)) d ops r K m h n lo rd wr fs
 |none=>lS z L (.pure (.enter f args)) d ops r K m h n lo rd wr fs
theorem Dr {f:FuncId} {args:List Value}:lS z L (.pure (.enter f args)) d ops r K m h n lo rd wr fs↔Dq z L (z.O f args) f args d ops r K m h n lo rd wr fs:=by
 unfold Dq
 cases hO:z.O f args with
 |none=>exact Iff.rfl
 |some p=>simp only[lS,iR,eP,AP.note,aM,lQ,hO]
theorem Ds {p:AP Value} {f:FuncId} {args:List Value}:Dq z L (some p) f args d ops r K m h n lo rd wr fs↔lS z L (p.bind fun v => .pure (.value v)) d ops r K m h n lo rd wr fs:=Iff.rfl
theorem uR {P:Program} {O:Over} {ev ev':fU} (hle:sJ ev ev') {ops:List Oper}:∀ (r:List Oper) {m:Tm} {h:PT ak} {n:Nat} {fs:List bD} {x:Tm×List bD} {s':HS},pK P O ev ops r m h n fs = .ok x s'→pK P O ev' ops r m h n fs = .ok x s'
 | [],_,_,_,_,_,_,e=>e
 |o::r,m,h,n,fs,x,s',e=>by
  unfold pK at e ⊢
  refine bM (fun a s q=>?_) (fun a s _ b s' q=>uR hle r q) e
  unfold NF at q ⊢
  refine bM (fun a s q=>?_) (fun _ _ _ _ _ q=>q) q
  cases hw:bJ ops m o with
  |false=>rw[hw] at q;exact q
  |true=>
   rw[hw] at q
   simp only[cond_true] at q ⊢
   cases hf:o.op.operands.toList.all aX with
   |false=>rw[hf] at q;simp at q
   |true=>
    rw[hf] at q
    simp only[cond_true] at q ⊢
    refine bM (fun _ _ q=>q) (fun a s _ b s' q=>?_) q
    cases a with
    |value v=>exact q
    |skip=>exact q
    |round l m as bd=>exact q
    |enter f args=>
     simp only[lQ] at q ⊢
     cases hO:O f args with
     |none=>rw[hO] at q;exact mO hle q
     |some p=>rw[hO] at q;exact q
theorem FJ {f:FuncId} {args:List Value} {k:Nat} {v:Value} {h':PT ak} {n':Nat} (hm:m.n=z.N) (hO:z.O f args=none) (e:fk z.P (jW z.P z.O k) 0 f args (S0 h n) = .ok v (S0 h' n')) (hk:∀ rd' wr',lS z L (.pure (.value v)) d ops r K m h' n' lo rd' wr' fs):
  lS z L (.pure (.enter f args)) d ops r K m h n lo rd wr fs:=by
 obtain⟨rd',wr',u,-,-⟩:=wj (lim:=lo) (AG k) f args h n [] [] v (S0 h' n') e rd wr
 obtain⟨_,k2,m',fs',h2,n2,e2,q⟩:=hk rd' wr'
 refine⟨hm,max k k2,m',fs',h2,n2,?_,q⟩
 simp only[AP.note,aM,lQ,hO] at e2 ⊢
 rw[mO (ia (Nat.le_max_left k k2)) u,aM]
 exact bM (fun _ _ q=>q) (fun a s _ b s' q=>uR (ia (Nat.le_max_right k k2)) r q) e2
end rules
end Go.Am
set_option linter.unusedSimpArgs false
set_option linter.unusedVariables false
namespace Go.Am
open Go.RowKit
def cW (P:Program) (O:Over) (f:FuncId) (args:List Value) (h:PT ak) (n:Nat) (R:Value→PT ak→Nat→Prop):Prop:=
 ∃ k v h' n',fk P (jW P O k) 0 f args (S0 h n) = .ok v (S0 h' n')∧R v h' n'
def JI (P:Program) (t:TypeId) (x:Value) (h:PT ak):Option Value:=match (dX P t x).run 0 (S0 h 0) with
 | .ok v _=>some v
 | .fail _=>none
def jl (P:Program) (m:Tm) (h:PT ak):List ResultVar→Option (List Value)
 | []=>some []
 | .tmp t::r=>match jl P m h r with
  |some l=>some (m.get t::l)
  |none=>none
 | .cell a t::r=>match JI P t (m.get a) h with
  |some v=>match jl P m h r with
   |some l=>some (v::l)
   |none=>none
  |none=>none
theorem FK {P:Program} {t:TypeId} {x:Value} {h:PT ak} {v:Value} (n:Nat) (e:JI P t x h=some v):(dX P t x).run 0 (S0 h n) = .ok v (S0 h n):=by
 have key:∀ n,(dX P t x).run 0 (S0 h n)=match JI P t x h with |some v => .ok v (S0 h n) |none=>(dX P t x).run 0 (S0 h n):=by
  intro n
  unfold JI dX
  split
  ·rename_i a i d _ _
   simp only[AP.run,show ∀ m,(S0 h m).heap=h from fun _=>rfl]
   cases h.get a.block with
   |none=>rfl
   |some b=>
    simp only[show Nat.blt a.block 0=false from rfl,cond_false]
    cases b<;>first |rfl |skip
    rename_i c ro
    cases isAgg d with
    |false=>simp only[cond_false];cases c.get a.off<;>rfl
    |true=>simp only[cond_true];cases aP c a.off i.size<;>rfl
  ·rfl
 rw[key n,e]
theorem mQ {P:Program} {m:Tm} {h:PT ak} {n:Nat}:∀ {rs:List ResultVar} {l:List Value},jl P m h rs=some l→b8 P 0 m rs (S0 h n) = .ok l (S0 h n)
 | [],l,e=>by simp only[jl,Option.some.injEq] at e;subst e;rfl
 | .tmp t::r,l,e=>by
  simp only[jl] at e
  cases hr:jl P m h r with
  |none=>rw[hr] at e;simp at e
  |some l'=>
   rw[hr] at e
   simp only[Option.some.injEq] at e
   subst e
   show bH (b8 P 0 m r (S0 h n)) _=_
   rw[mQ hr];rfl
 | .cell a t::r,l,e=>by
  simp only[jl] at e
  cases hv:JI P t (m.get a) h with
  |none=>rw[hv] at e;simp at e
  |some v=>
   rw[hv] at e
   cases hr:jl P m h r with
   |none=>rw[hr] at e;simp at e
   |some l'=>
    rw[hr] at e
    simp only[Option.some.injEq] at e
    subst e
    show bH ((dX P t (m.get a)).run 0 (S0 h n)) _=_
    rw[FK n hv]
    show bH (b8 P 0 m r (S0 h n)) _=_
    rw[mQ hr];rfl
def Fin (P:Program) (rs:List ResultVar) (R:Value→PT ak→Nat→Prop) (e:aV) (m:Tm) (h:PT ak) (n:Nat):Prop:=
 (match e with | .exit _=>False | _=>True)∧m.eS=[]∧∃ l,jl P m h rs=some l∧R (oneOf l) h n
theorem NH {P:Program} {O:Over} {f:FuncId} {fn:Func} {c:Code} {args:List Value} {h:PT ak} {n:Nat} {R:Value→PT ak→Nat→Prop} (hf:P.funcs[f]? = some fn) (hb:fn.body=some c)
  (H:∀ z:Zx,z.P=P→z.O=O→z.ro=none→z.N=args.length+(fn.ntmps-args.length)→z.Q=Fin P fn.results.toList R→fJ z c [] ⟨args.length+(fn.ntmps-args.length),PT.ofList .leaf 0 args,[]⟩ h n):cW P O f args h n R:=by
 obtain⟨_,k,x,h',n',e,hx⟩:=H ⟨P,O,none,args.length+(fn.ntmps-args.length),Fin P fn.results.toList R⟩ rfl rfl rfl rfl rfl
 obtain⟨_,hx,hd,l,hl,hR⟩:_∧Fin P fn.results.toList R x.1 x.2 h' n':=hx
 refine⟨k,oneOf l,h',n',?_,hR⟩
 simp only[fk,hf,hb]
 rw[e,aM]
 unfold gI
 rw[hd]
 cases hx1:x.1 with
 |exit i=>rw[hx1] at hx;exact hx.elim
 |normal=>simp only[dO,aM];rw[mQ hl];rfl
 |ret=>simp only[dO,aM];rw[mQ hl];rfl
mutual
inductive gu (I:Nat→Nat→Prop) (Old:Value→Prop):Value→Value→Prop
 |old (v:Value) (h:Old v):gu I Old v v
 |bool (b:Bool):gu I Old (.bool b) (.bool b)
 |int (k:IntKind) (n:Int):gu I Old (.int k n) (.int k n)
 |string (s:ByteArray):gu I Old (.string s) (.string s)
 |eH:gu I Old (.pointer none) (.pointer none)
 |ptr (b off b':Nat) (h:I b b'):gu I Old (.pointer (some ⟨b,off,none⟩)) (.pointer (some ⟨b',off,none⟩))
 |nilslice (n c:Nat):gu I Old (.slice none n c) (.slice none n c)
 |slice (b off n c b':Nat) (h:I b b'):gu I Old (.slice (some ⟨b,off,none⟩) n c) (.slice (some ⟨b',off,none⟩) n c)
 |gK:gu I Old (.map none) (.map none)
 |map (r r':Nat) (h:I r r'):gu I Old (.map (some r)) (.map (some r'))
 |func (f:FuncId) (x x' y y':List Value) (hx:bQ I Old x x') (hy:bQ I Old y y'):gu I Old (.func (.func f) ⟨x⟩ ⟨y⟩) (.func (.func f) ⟨x'⟩ ⟨y'⟩)
 |fC:gu I Old .nilFunc .nilFunc
 |iface (t:TypeId) (v v':Value) (h:gu I Old v v'):gu I Old (.iface t v) (.iface t v')
 |dm:gu I Old .nilIface .nilIface
 |agg (l l':List Value) (h:bQ I Old l l'):gu I Old (.agg ⟨l⟩) (.agg ⟨l'⟩)
 |tuple (l l':List Value) (h:bQ I Old l l'):gu I Old (.tuple ⟨l⟩) (.tuple ⟨l'⟩)
inductive bQ (I:Nat→Nat→Prop) (Old:Value→Prop):List Value→List Value→Prop
 |nil:bQ I Old [] []
 |cons (v v':Value) (l l':List Value) (h:gu I Old v v') (t:bQ I Old l l'):bQ I Old (v::l) (v'::l')
end
theorem bQ.get {I:Nat→Nat→Prop} {Old:Value→Prop}:∀ {l l':List Value} (_:bQ I Old l l') {i:Nat} {v:Value},l[i]? = some v→∃ v',l'[i]? = some v'∧gu I Old v v'
 | _,_,.nil,i,v,e=>by simp at e
 | _,_,.cons _ v' _ _ h t,0,v,e=>by simp at e;subst e;exact⟨v',rfl,h⟩
 | _,_,.cons _ _ _ _ h t,i+1,v,e=>by simp at e;simpa using bQ.get t e
theorem bQ.refl {I:Nat→Nat→Prop} {Old:Value→Prop}:∀ (l:List Value),(∀ v∈l,gu I Old v v)→bQ I Old l l
 | [],_ => .nil
 |v::l,h => .cons _ _ _ _ (h v (by simp)) (bQ.refl l fun y hy=>h y (by simp[hy]))
theorem bQ.append {I:Nat→Nat→Prop} {Old:Value→Prop}:∀ {l l' m m':List Value},bQ I Old l l'→bQ I Old m m'→bQ I Old (l++m) (l'++m')
 | _,_,_,_,.nil,k=>k
 | _,_,_,_,.cons _ _ _ _ h t,k => .cons _ _ _ _ h (t.append k)
mutual
theorem gu.rel {I:Nat→Nat→Prop} {Old:Value→Prop} {Γ aS:br} (hI:∀ j j',I j j'→aS.blk j=Γ.blk j') (hO:∀ v,Old v→∀ u,aA Γ v u→aA aS v u) (hz:aS.gG=Γ.gG):
  ∀ {v v' u:Value},gu I Old v v'→aA Γ v' u→aA aS v u
 | _,_,_,.old v h,r=>hO v h _ r
 | _,_,_,.bool b,.bool _ => .bool b
 | _,_,_,.int k n,.int _ _ => .int k n
 | _,_,_,.string s,.string _ => .string s
 | _,_,_,.eH,.eH => .eH
 | _,_,_,.ptr b off b' h,.ptr _ a' ha => .ptr _ a' ⟨rfl,ha.spot',let ⟨s,e,o⟩:=ha.at_;⟨s,(hI _ _ h).trans e,o⟩⟩
 | _,_,_,.nilslice n c,.nilslice _ _ => .nilslice n c
 | _,_,_,.slice b off n c b' h,.slice _ a' _ _ c' ha hc=>by
  refine .slice _ a' n c c' ?_ ?_
  ·rcases ha with ha | ⟨h1,h2,h3,s,h4⟩ |hz
   ·exact .inl ⟨rfl,ha.spot',let ⟨s,e,o⟩:=ha.at_;⟨s,(hI _ _ h).trans e,o⟩⟩
   ·exact .inr (.inl ⟨h1,h2,h3,s,(hI _ _ h).trans h4⟩)
   ·exact .inr (.inr hz)
  ·unfold br.cap at hc ⊢
   rw[hz];exact hc
 | _,_,_,.gK,.gK => .gK
 | _,_,_,.map r r' h,.map _ u hu => .map _ u ((hI _ _ h).trans hu)
 | _,_,_,.func f x x' y y' hx hy,.func _ fn' _ a _ b ha hb hp=>by
  refine .func _ fn' _ a _ b (bQ.rel hI hO hz hx ha) (bQ.rel hI hO hz hy hb) ?_
  cases hp with
  |plain _ hp=>exact .plain _ hp
 | _,_,_,.fC,.fC => .fC
 | _,_,_,.iface t v v' h,.iface _ _ u hu => .iface t v u (gu.rel hI hO hz h hu)
 | _,_,_,.dm,.dm => .dm
 | _,_,_,.agg l l' h,.agg _ u hu => .agg l u (bQ.rel hI hO hz h hu)
 | _,_,_,.tuple l l' h,.tuple _ u hu => .tuple l u (bQ.rel hI hO hz h hu)
theorem bQ.rel {I:Nat→Nat→Prop} {Old:Value→Prop} {Γ aS:br} (hI:∀ j j',I j j'→aS.blk j=Γ.blk j') (hO:∀ v,Old v→∀ u,aA Γ v u→aA aS v u) (hz:aS.gG=Γ.gG):
  ∀ {l l' u:List Value},bQ I Old l l'→aF Γ l' u→aF aS l u
 | _,_,_,.nil,.nil => .nil
 | _,_,_,.cons _ _ _ _ h t,.cons _ _ _ _ hu tu => .cons _ _ _ _ (gu.rel hI hO hz h hu) (bQ.rel hI hO hz t tu)
end
mutual
theorem aA.down {Γ dA:br} (hle:Γ.le dA):∀ {v Dt u:Value},aA Γ v Dt→aA dA v u→aA Γ v u
 | _,_,_,.bool b,.bool _ => .bool b
 | _,_,_,.int k n,.int _ _ => .int k n
 | _,_,_,.float k n,.float _ _ => .float k n
 | _,_,_,.complex k n m,.complex _ _ _ => .complex k n m
 | _,_,_,.string s,.string _ => .string s
 | _,_,_,.eH,.eH => .eH
 | _,_,_,.ptr a a₀ h₀,.ptr _ a' ha => .ptr a a' ⟨ha.spot,ha.spot',by
   obtain⟨s,e,o⟩:=ha.at_
   obtain⟨s₀,e₀,_⟩:=h₀.at_
   have:=hle.blk _ _ e₀
   rw[e] at this
   obtain⟨h1,rfl⟩:a'.block=a₀.block∧s=s₀:=by simpa using this
   exact⟨s,by rw[h1];exact e₀,o⟩⟩
 | _,_,_,.nilslice n c,.nilslice _ _ => .nilslice n c
 | _,_,_,.slice a a₀ n c c₀ h₀ k₀,.slice _ a' _ _ c' ha hc=>by
  by_cases hz:n=0∧c=0
  ·obtain⟨rfl,rfl⟩:=hz
   refine .slice a a' 0 0 c' (.inr (.inr ⟨rfl,rfl⟩)) ?_
   unfold br.cap at hc ⊢
   rw[if_neg (by unfold aB;omega)] at hc ⊢
   exact hc
  obtain⟨s₀,e₀⟩:∃ s,Γ.blk a.block=some (a₀.block,s):=by
   rcases h₀ with h₀ |h₀ |h₀
   ·obtain⟨s,e,_⟩:=h₀.at_;exact⟨s,e⟩
   ·exact h₀.2.2.2
   ·exact absurd h₀ hz
  have e₂:=hle.blk _ _ e₀
  refine .slice a a' n c c' ?_ ?_
  ·rcases ha with ha | ⟨h1,h2,h3,s,h4⟩ |ha
   rotate_left 2
   ·exact absurd ha hz
   ·refine .inl ⟨ha.spot,ha.spot',?_⟩
    obtain⟨s,e,o⟩:=ha.at_
    rw[e] at e₂
    obtain⟨h1,rfl⟩:a'.block=a₀.block∧s=s₀:=by simpa using e₂
    exact⟨s,by rw[h1];exact e₀,o⟩
   ·refine .inr (.inl ⟨h1,h2,h3,s,?_⟩)
    rw[h4] at e₂
    obtain⟨h1,rfl⟩:a'.block=a₀.block∧s=s₀:=by simpa using e₂
    rw[h1];exact e₀
  ·unfold br.cap at hc k₀ ⊢
   split
   ·rename_i hi
    have hb:a'.block=a₀.block:=by
     obtain⟨s,e⟩:=ha.block (by unfold aB at hi;omega)
     rw[e] at e₂
     exact(by simpa using e₂:a'.block=a₀.block∧s=s₀).1
    rw[if_pos hi] at hc k₀
    obtain⟨h1,M,h2,h3⟩:=hc
    obtain⟨_,aaY,h4,_⟩:=k₀
    have:=hle.gG _ _ h4
    rw[←hb,h2] at this
    obtain rfl:M=aaY:=by simpa using this
    exact⟨h1,M,by rw[hb];exact h4,h3⟩
   ·rename_i hi
    rw[if_neg hi] at hc
    exact hc
 | _,_,_,.gK,.gK => .gK
 | _,_,_,.map r r₀ h₀,.map _ r' h=>by
  have:=hle.blk _ _ h₀
  rw[h] at this
  obtain rfl:r'=r₀:=by simpa using this
  exact .map _ _ h₀
 | _,_,_,.oq,.oq => .oq
 | _,_,_,.func fn _ f _ c _ hf hc hp,.func _ _ _ _ _ _ hf' Lx hp'=>by
  refine .func _ _ _ _ _ _ (aF.down hle hf hf') (aF.down hle hc Lx) ?_
  cases hp' with
  |plain _ h=>exact .plain _ h
  |yield l l' h=>
   cases hp with
   |plain _ h'=>exact absurd rfl (h' l)
   |yield _ l₀ h₀=>
    have:=hle.blk _ _ h₀
    rw[h] at this
    obtain rfl:l'=l₀:=by simpa using this
    exact .yield _ _ h₀
 | _,_,_,.fC,.fC => .fC
 | _,_,_,.iface t v _ h,.iface _ _ _ h' => .iface t v _ (aA.down hle h h')
 | _,_,_,.dm,.dm => .dm
 | _,_,_,.agg l _ h,.agg _ _ h' => .agg l _ (aF.down hle h h')
 | _,_,_,.tuple l _ h,.tuple _ _ h' => .tuple l _ (aF.down hle h h')
theorem aF.down {Γ dA:br} (hle:Γ.le dA):∀ {l Dt u:List Value},aF Γ l Dt→aF dA l u→aF Γ l u
 | _,_,_,.nil,.nil => .nil
 | _,_,_,.cons _ _ _ _ h t,.cons _ _ _ _ h' t' => .cons _ _ _ _ (aA.down hle h h') (aF.down hle t t')
end
inductive uS (I:Nat→Nat→Prop) (Old:Value→Prop):List (Value×Value×Nat)→List (Value×Value×Nat)→Prop
 |nil:uS I Old [] []
 |cons (p q:Value×Value×Nat) (l l':List (Value×Value×Nat)) (hk:gu I Old p.1 q.1) (hv:gu I Old p.2.1 q.2.1) (hb:p.2.2=q.2.2) (t:uS I Old l l'):uS I Old (p::l) (q::l')
theorem uS.rel {I:Nat→Nat→Prop} {Old:Value→Prop} {Γ aS:br} (hI:∀ j j',I j j'→aS.blk j=Γ.blk j') (hO:∀ v,Old v→∀ u,aA Γ v u→aA aS v u) (hz:aS.gG=Γ.gG):
  ∀ {l l':List (Value×Value×Nat)} {u:List MapEntry},uS I Old l l'→bF Γ l' u→bF aS l u
 | _,_,_,.nil,.nil => .nil
 | _,_,_,.cons _ _ _ _ hk hv hb t,.cons _ _ _ _ hk' Sm hb' t' => .cons _ _ _ _ (hk.rel hI hO hz hk') (hv.rel hI hO hz Sm) (hb.trans hb') (t.rel hI hO hz t')
inductive AJ (I:Nat→Nat→Prop) (Old:Value→Prop):ak→ak→Prop
 |cells (l l':List Value) (ro:Bool) (h:bQ I Old l l'):AJ I Old (.cells (PT.ofList .leaf 0 l) ro) (.cells (PT.ofList .leaf 0 l') ro)
 |map (es es':List (Value×Value×Nat)) (clk:Nat) (h:uS I Old es es'):AJ I Old (.map es clk) (.map es' clk)
theorem AJ.rel {I:Nat→Nat→Prop} {Old:Value→Prop} {Γ aS:br} {w:World} (hI:∀ j j',I j j'→aS.blk j=Γ.blk j') (hO:∀ v,Old v→∀ u,aA Γ v u→aA aS v u) (hz:aS.gG=Γ.gG) {B B':ak} {b s:Nat}
  (h:AJ I Old B B') (r:j5 Γ w B' b s):j5 aS w B b s:=by
 cases h with
 |cells l l' ro h=>
  obtain⟨cs,el,fz,h1,h2,h3⟩:=r
  refine⟨cs,el,fz,h1,h2,fun i v e=>?_⟩
  rw[PT.aI] at e
  obtain⟨v',e',q⟩:=h.get e
  obtain⟨u,e₂,q₂⟩:=h3 i v' (by rw[PT.aI];exact e')
  exact⟨u,e₂,q.rel hI hO hz q₂⟩
 |map es es' clk h=>
  obtain⟨h0,aU,h1,h2⟩:=r
  exact⟨h0,aU,h1,h.rel hI hO hz h2⟩
theorem AJ.cA {I:Nat→Nat→Prop} {Old:Value→Prop} {B B':ak} (h:AJ I Old B B'):B.cA↔B'.cA:=by cases h<;>exact Iff.rfl
theorem bF.down {Γ dA:br} (hle:Γ.le dA):∀ {l:List (Value×Value×Nat)} {Dt u:List MapEntry},bF Γ l Dt→bF dA l u→bF Γ l u
 | _,_,_,.nil,.nil => .nil
 | _,_,_,.cons _ _ _ _ hk hv hb t,.cons _ _ _ _ hk' Sm hb' t' => .cons _ _ _ _ (aA.down hle hk hk') (aA.down hle hv Sm) hb' (bF.down hle t t')
theorem j5.down {Γ dA:br} (hle:Γ.le dA) {w w₂:World} {B:ak} {b s:Nat} (h₀:j5 Γ w B b s) (h:j5 dA w₂ B b s):j5 Γ w₂ B b s:=by
 cases B with
 |cells c ro=>
  obtain⟨adW,adX,adY,_,_,FL⟩:=h₀
  obtain⟨cs,el,fz,h1,h2,h3⟩:=h
  refine⟨cs,el,fz,h1,h2,fun i v e=>?_⟩
  obtain⟨Dt,_,aaZ⟩:=FL i v e
  obtain⟨u,e',q⟩:=h3 i v e
  exact⟨u,e',aA.down hle aaZ q⟩
 |map es clk=>
  obtain⟨_,VC,_,SK⟩:=h₀
  obtain⟨h0,aU,h1,h2⟩:=h
  exact⟨h0,aU,h1,bF.down hle SK h2⟩
 |iter m since seen stepped=>
  obtain⟨_,m₀,_,_,FL⟩:=h₀
  obtain⟨h0,m',h1,h2,h3⟩:=h
  refine⟨h0,m',h1,h2,fun r hr=>?_⟩
  obtain⟨r₀,_,e₀⟩:=FL r hr
  obtain⟨r',e',e⟩:=h3 r hr
  have:=hle.blk _ _ e₀
  rw[e] at this
  obtain rfl:r'=r₀:=by simpa using this
  exact⟨r',e',e₀⟩
 |loop st gH tm ps as bd=>
  obtain⟨_,akw,_,_,_,ht₀,_⟩:=h₀
  obtain⟨h0,L,h1,h2,h3,ht,h5⟩:=h
  exact⟨h0,L,h1,h2,h3,⟨ht.size,fun i=>aA.down hle (ht₀.get i) (ht.get i)⟩,h5⟩
 |deferred=>exact h
end Go.Am
