/-
A part.
-/
import Derived.Test.YtofmbmclopgldaaGreatAmX3
set_option linter.all false
namespace Go.Am
def AP.note{α:Type}:AP α→HS→aO α
 | .pure a,s => .ok a s
 | .fail why,_ => .fail why
 | .get id k,s=>match s.heap.get id with
  |none => .fail "get"
  |some b=>(k b).note { s with rd:=id::s.rd }
 | .set id b k,s=>match s.heap.get id with
  |none => .fail "set"
  |some _=>k.note { s with heap:=s.heap.set id (some b),wr:=id::s.wr }
 | .kill id k,s=>match s.heap.get id with
  |none => .fail "kill"
  |some _=>k.note { s with heap:=s.heap.set id none,wr:=id::s.wr }
 | .new b k,s=>(k s.next).note { s with heap:=s.heap.set s.next (some b),next:=Nat.succ s.next }
theorem nF{id:Nat}{l l':List Nat}(hl:∀ i∈l,i∈l'){i:Nat}(hi:i∈cond true (ins id l) l):i∈id::l':=by
 simp only[cond_true,ins] at hi;cases ha:l.any (Nat.beq id) with
 |true=>rw[ha] at hi;exact List.mem_cons_of_mem _ (hl i hi)
 |false=>
  rw[ha] at hi
  rcases List.mem_cons.1 hi with rfl |hi
  ·exact List.mem_cons_self
  ·exact List.mem_cons_of_mem _ (hl i hi)
theorem fW{α:Type}(lim:Nat):∀ (p:AP α) (s:HS) (a:α) (s':HS),p.note s = .ok a s'→∀ rd wr,(∀ i∈rd,i∈s.rd)→(∀ i∈wr,i∈s.wr)→
  ∃ rd' wr',p.run lim ⟨s.heap,s.next,rd,wr⟩ = .ok a ⟨s'.heap,s'.next,rd',wr'⟩∧(∀ i∈rd',i∈s'.rd)∧(∀ i∈wr',i∈s'.wr)
 | .pure a,s,b,s',e,rd,wr,h1,h2=>by
  simp only[AP.note,aO.ok.injEq] at e;obtain⟨rfl,rfl⟩:=e;exact⟨rd,wr,rfl,h1,h2⟩
 | .fail w,s,b,s',e,rd,wr,h1,h2=>by simp[AP.note] at e
 | .get id k,s,b,s',e,rd,wr,h1,h2=>by
  simp only[AP.note] at e;cases hb:s.heap.get id with
  |none=>rw[hb] at e;simp at e
  |some B=>
   rw[hb] at e;simp only at e;have:=fW lim (k B) _ b s' e (cond (Nat.blt id lim) (ins id rd) rd) wr (fun i hi=>?_) h2
   ·obtain⟨rd',wr',q,q1,q2⟩:=this;refine⟨rd',wr',?_,q1,q2⟩;simp only[AP.run,hb];cases hl:Nat.blt id lim<;>simp only[hl,cond_true,cond_false] at q ⊢<;>exact q
   ·cases hl:Nat.blt id lim with
    |false=>rw[hl] at hi;exact List.mem_cons_of_mem _ (h1 i hi)
    |true=>
     rw[hl] at hi;exact nF h1 hi
 | .set id c k,s,b,s',e,rd,wr,h1,h2=>by
  simp only[AP.note] at e;cases hb:s.heap.get id with
  |none=>rw[hb] at e;simp at e
  |some B=>
   rw[hb] at e;simp only at e;have:=fW lim k _ b s' e rd (cond (Nat.blt id lim) (ins id wr) wr) h1 (fun i hi=>?_)
   ·obtain⟨rd',wr',q,q1,q2⟩:=this;refine⟨rd',wr',?_,q1,q2⟩;simp only[AP.run,hb];cases hl:Nat.blt id lim<;>simp only[hl,cond_true,cond_false] at q ⊢<;>exact q
   ·cases hl:Nat.blt id lim with
    |false=>rw[hl] at hi;exact List.mem_cons_of_mem _ (h2 i hi)
    |true=>
     rw[hl] at hi;exact nF h2 hi
 | .kill id k,s,b,s',e,rd,wr,h1,h2=>by
  simp only[AP.note] at e;cases hb:s.heap.get id with
  |none=>rw[hb] at e;simp at e
  |some B=>
   rw[hb] at e;simp only at e;have:=fW lim k _ b s' e rd (cond (Nat.blt id lim) (ins id wr) wr) h1 (fun i hi=>?_)
   ·obtain⟨rd',wr',q,q1,q2⟩:=this;refine⟨rd',wr',?_,q1,q2⟩;simp only[AP.run,hb];cases hl:Nat.blt id lim<;>simp only[hl,cond_true,cond_false] at q ⊢<;>exact q
   ·cases hl:Nat.blt id lim with
    |false=>rw[hl] at hi;exact List.mem_cons_of_mem _ (h2 i hi)
    |true=>
     rw[hl] at hi;exact nF h2 hi
 | .new c k,s,b,s',e,rd,wr,h1,h2=>by
  simp only[AP.note] at e;exact fW lim (k s.next) _ b s' e rd wr h1 h2
def NM(e:Prop){α:Type}(F0 F:HS→aO α):Prop:=∀ h n mU lR a s,F0 ⟨h,n,mU,lR⟩ = .ok a s→∀ rd wr,∃ rd' wr',F ⟨h,n,rd,wr⟩ = .ok a ⟨s.heap,s.next,rd',wr'⟩∧(e→Sub rd mU→Sub rd' s.rd)∧(e→Sub wr lR→Sub wr' s.wr)
theorem NM.bP{e:Prop}{α β:Type}{F0 F:HS→aO α}{k0 k:α→HS→aO β}(hF:NM e F0 F)(hk:∀ a,NM e (k0 a) (k a)):NM e (fun s=>bP (F0 s) k0) (fun s=>bP (F s) k):=by
 intro h n mU lR b s q rd wr;obtain⟨a,s₁,q1,q2⟩:=bE q;obtain⟨rd',wr',u,u1,u2⟩:=hF h n mU lR a s₁ q1 rd wr;obtain⟨RB,RC,v,v1,v2⟩:=hk a s₁.heap s₁.next s₁.rd s₁.wr b s q2 rd' wr';exact⟨RB,RC,by show Go.Am.bP _ _=_;rw[u,aS];exact v,fun c c1=>v1 c (u1 c c1),fun c c1=>v2 c (u2 c c1)⟩
theorem NM.ok{e:Prop}{α:Type}(a:α):NM e (fun s => .ok a s) (fun s => .ok a s):=fun h n mU lR b s q rd wr=>by
 simp only[aO.ok.injEq] at q;obtain⟨rfl,rfl⟩:=q;exact⟨rd,wr,rfl,fun _ c=>c,fun _ c=>c⟩
theorem NM.fail{e:Prop}{α:Type}(w:String)(F:HS→aO α):NM e (fun _=>(.fail w:aO α)) F:=fun h n mU lR b s q rd wr=>by simp at q
theorem qc{lim id:Nat}{l l':List Nat}(h:Sub l l'):Sub (cond (Nat.blt id lim) (ins id l) l) (cond (Nat.blt id lim) (ins id l') l'):=by
 cases Nat.blt id lim with
 |false=>exact h
 |true=>exact fun x hx=>gQ.2 ((gQ.1 hx).imp (fun c=>c) (h x))
theorem NM.ap{α:Type}(aX lim:Nat):∀ (p:AP α),NM (aX=lim) (fun s=>p.run aX s) (fun s=>p.run lim s)
 | .pure a=>fun h n mU lR b s q rd wr=>by
  simp only[AP.run,aO.ok.injEq] at q;obtain⟨rfl,rfl⟩:=q;exact⟨rd,wr,rfl,fun _ c=>c,fun _ c=>c⟩
 | .fail w=>fun h n mU lR b s q rd wr=>by simp[AP.run] at q
 | .get id k=>fun h n mU lR b s q rd wr=>by
  simp only[AP.run] at q ⊢;cases hb:h.get id with
  |none=>rw[hb] at q;simp at q
  |some B=>
   rw[hb] at q;simp only at q;have e0:∀ l r w,(match Nat.blt id l with |true=>(⟨h,n,ins id r,w⟩:HS) |false=>⟨h,n,r,w⟩)=⟨h,n,cond (Nat.blt id l) (ins id r) r,w⟩:=fun l r w=>by cases Nat.blt id l<;>rfl
   have q':(k B).run aX ⟨h,n,cond (Nat.blt id aX) (ins id mU) mU,lR⟩ = .ok b s:=by
    cases hl:Nat.blt id aX<;>simp only[hl,cond_true,cond_false] at q ⊢<;>exact q
   obtain⟨rd',wr',u,u1,u2⟩:=NM.ap aX lim (k B) h n _ _ b s q' (cond (Nat.blt id lim) (ins id rd) rd) wr;refine⟨rd',wr',?_,fun c c1=>u1 c (by subst c;exact qc c1),u2⟩;cases hl:Nat.blt id lim<;>simp only[hl,cond_true,cond_false] at u ⊢<;>exact u
 | .set id B k=>fun h n mU lR b s q rd wr=>by
  simp only[AP.run] at q ⊢;cases hb:h.get id with
  |none=>rw[hb] at q;simp at q
  |some B'=>
   rw[hb] at q;simp only at q;have q':k.run aX ⟨h.set id (some B),n,mU,cond (Nat.blt id aX) (ins id lR) lR⟩ = .ok b s:=by
    cases hl:Nat.blt id aX<;>simp only[hl,cond_true,cond_false] at q ⊢<;>exact q
   obtain⟨rd',wr',u,u1,u2⟩:=NM.ap aX lim k (h.set id (some B)) n _ _ b s q' rd (cond (Nat.blt id lim) (ins id wr) wr);refine⟨rd',wr',?_,u1,fun c c1=>u2 c (by subst c;exact qc c1)⟩;cases hl:Nat.blt id lim<;>simp only[hl,cond_true,cond_false] at u ⊢<;>exact u
 | .kill id k=>fun h n mU lR b s q rd wr=>by
  simp only[AP.run] at q ⊢;cases hb:h.get id with
  |none=>rw[hb] at q;simp at q
  |some B'=>
   rw[hb] at q;simp only at q;have q':k.run aX ⟨h.set id none,n,mU,cond (Nat.blt id aX) (ins id lR) lR⟩ = .ok b s:=by
    cases hl:Nat.blt id aX<;>simp only[hl,cond_true,cond_false] at q ⊢<;>exact q
   obtain⟨rd',wr',u,u1,u2⟩:=NM.ap aX lim k (h.set id none) n _ _ b s q' rd (cond (Nat.blt id lim) (ins id wr) wr);refine⟨rd',wr',?_,u1,fun c c1=>u2 c (by subst c;exact qc c1)⟩;cases hl:Nat.blt id lim<;>simp only[hl,cond_true,cond_false] at u ⊢<;>exact u
 | .new B k=>fun h n mU lR b s q rd wr=>by
  simp only[AP.run] at q ⊢;exact NM.ap aX lim (k n) (h.set n (some B)) (n+1) _ _ b s q rd wr
section
variable {P:Program} {O:Over} {aX lim:Nat}
def LS(aX lim:Nat)(ev:iL):Prop:=∀ ro c m,NM (aX=lim) (fun s=>ev ro aX c m s) (fun s=>ev ro lim c m s)
variable {ev:iL}
theorem q_:∀ l,NM (aX=lim) (fB aX l) (fB lim l)
 | [] => .ok _
 |d::r=>(NM.ap aX lim (pX d)).bP fun _=>q_ r
theorem nG(m:Tm):∀ l,NM (aX=lim) (cD P aX m l) (cD P lim m l)
 | [] => .ok _
 | .tmp t::r=>(nG m r).bP fun l => .ok (m.get t::l)
 | .cell a t::r=>(NM.ap aX lim (fG P t (m.get a))).bP fun v=>(nG m r).bP fun l => .ok (v::l)
theorem Nj(rs:List ResultVar)(x:bp×Tm):NM (aX=lim) (iH P aX rs x) (iH P lim rs x):=by
 unfold iH;cases x.1 with
 |exit id=>exact .fail _ _
 |normal=>exact(q_ _).bP fun _=>(nG _ _).bP fun _ => .ok _
 |ret=>exact(q_ _).bP fun _=>(nG _ _).bP fun _ => .ok _
theorem BF(h:LS aX lim ev)(f:FuncId)(args:List Value):NM (aX=lim) (gV P ev aX f args) (gV P ev lim f args):=by
 unfold gV;cases P.funcs[f]? with
 |none=>exact .fail _ _
 |some fn=>
  simp only;cases fn.body with
  |none=>exact .fail _ _
  |some c=>exact(h _ _ _).bP fun _=>Nj _ _
theorem Ih(h:LS aX lim ev)(f:FuncId)(args:List Value):NM (aX=lim) (fT P O ev aX f args) (fT P O ev lim f args):=by
 unfold fT;cases O f args with
 |none=>exact BF h f args
 |some m=>exact NM.ap _ _ m
theorem Nk(h:LS aX lim ev)(l:Nat)(m:Tm)(as bd:Code):NM (aX=lim) (ga ev aX l m as bd) (ga ev lim l m as bd):=by
 unfold ga;refine(h _ _ _).bP fun x=>?_;cases x.1 with
 |normal=>exact(NM.ap _ _ _).bP fun _=>(h _ _ _).bP fun _=>NM.ap _ _ _
 |exit i=>exact .fail _ _
 |ret=>exact .fail _ _
theorem SX(h:LS aX lim ev)(x:aG):NM (aX=lim) (fU P O ev aX x) (fU P O ev lim x):=by
 cases x with
 |value v=>exact .ok _
 |skip=>exact .ok _
 |enter f args=>exact Ih h f args
 |round l m as bd=>exact Nk h l m as bd
theorem Yr(m:Tm)(d:Option Nat)(v:Value){e:Prop}:NM e (jt m d v) (jt m d v):=by
 unfold jt;cases m.put d v with
 |none=>exact .fail _ _
 |some m=>exact .ok _
theorem adf(h:LS aX lim ev)(ops:List Oper)(o:Oper)(m:Tm):NM (aX=lim) (lW P O ev aX ops o m) (lW P O ev lim ops o m):=by
 unfold lW;refine NM.bP ?_ fun v=>Yr m _ v;cases b_ ops m o with
 |false=>exact .ok _
 |true=>
  show NM _ (jr P O ev aX m.eval o) (jr P O ev lim m.eval o)
  unfold jr;cases o.op.operands.toList.all bz with
  |false=>exact .fail _ _
  |true=>exact(NM.ap _ _ _).bP fun x=>SX h x
theorem Nl(h:LS aX lim ev)(ops:List Oper):∀ (r:List Oper) (m:Tm),NM (aX=lim) (jl P O ev aX ops r m) (jl P O ev lim ops r m)
 | [],m => .ok _
 |o::r,m=>(adf h ops o m).bP fun m=>Nl h ops r m
theorem Ad{lim:Nat}{l a b:List Nat}(h:Sub a b):Sub (below lim l a) (below lim l b):=fun x hx=>(gR l b x).2 (((gR l a x).1 hx).imp (fun c=>c) (h x))
theorem xC{lim:Nat}:∀ (fs:List bO) (s:HS),(aT lim fs s).heap=s.heap∧(aT lim fs s).next=s.next
 | [],s=>⟨rfl,rfl⟩
 |f::fs,s=>xC fs _
theorem qd{lim:Nat}:∀ (fs:List bO) (s s':HS),(Sub s.rd s'.rd→Sub (aT lim fs s).rd (aT lim fs s').rd)∧(Sub s.wr s'.wr→Sub (aT lim fs s).wr (aT lim fs s').wr)
 | [],s,s'=>⟨fun h=>h,fun h=>h⟩
 |f::fs,s,s'=>⟨fun h=>(qd fs _ _).1 (Ad h),fun h=>(qd fs _ _).2 (Ad h)⟩
theorem SY(ops:List Oper)(m:Tm):NM (aX=lim) (fJ P O ev aX ops m) (fJ P O ev lim ops m):=by
 intro H n mU lR a s e rd wr;unfold fJ at e ⊢;cases hd:g9 ops (aR (aU [] ops) ops.length) with
 |false=>rw[hd] at e;simp at e
 |true=>
  rw[hd] at e;simp only[cond_true] at e ⊢;obtain⟨x,s₁,e₁,e₂⟩:=bE e;have zY:g8 P O ev ops ops m H n = .ok x s₁:=e₁;cases hf:dc x.2 (aR (aU [] ops) ops.length) with
  |false=>rw[hf] at e₂;simp at e₂
  |true=>
   rw[hf] at e₂;simp only[cond_true,aO.ok.injEq] at e₂;obtain⟨rfl,e₂⟩:=e₂;rw[show g8 P O ev ops ops m (⟨H,n,rd,wr⟩:HS).heap (⟨H,n,rd,wr⟩:HS).next = .ok x s₁ from zY,aS];simp only[hf,cond_true];have hh:∀ l (r w:List Nat),(cond (Nat.beq l 0) (⟨s₁.heap,s₁.next,r,w⟩:HS) (aT l x.2 ⟨s₁.heap,s₁.next,r,w⟩)).heap=s₁.heap∧(cond (Nat.beq l 0) (⟨s₁.heap,s₁.next,r,w⟩:HS) (aT l x.2 ⟨s₁.heap,s₁.next,r,w⟩)).next=s₁.next:=fun l r w=>by
    cases Nat.beq l 0 with
    |true=>exact⟨rfl,rfl⟩
    |false=>exact xC x.2 ⟨s₁.heap,s₁.next,r,w⟩
   have h1:=hh lim rd wr;have h0:=hh aX mU lR;rw[e₂] at h0;have eta:∀ X:HS,X.heap=s₁.heap→X.next=s₁.next→X=⟨s.heap,s.next,X.rd,X.wr⟩:=fun X a b=>by rw[h0.1,h0.2,←a,←b]
   refine⟨_,_,congrArg (aO.ok x.1) (show _=(⟨s.heap,s.next,(cond (Nat.beq lim 0) (⟨s₁.heap,s₁.next,rd,wr⟩:HS) (aT lim x.2 ⟨s₁.heap,s₁.next,rd,wr⟩)).rd,(cond (Nat.beq lim 0) (⟨s₁.heap,s₁.next,rd,wr⟩:HS) (aT lim x.2 ⟨s₁.heap,s₁.next,rd,wr⟩)).wr⟩:HS) from ?_),fun c c1=>?_,fun c c1=>?_⟩
   ·exact eta _ h1.1 h1.2
   ·subst c;rw[←e₂];cases Nat.beq aX 0 with
    |true=>exact c1
    |false=>exact(qd x.2 ⟨s₁.heap,s₁.next,rd,wr⟩ ⟨s₁.heap,s₁.next,mU,lR⟩).1 c1
   ·subst c;rw[←e₂];cases Nat.beq aX 0 with
    |true=>exact c1
    |false=>exact(qd x.2 ⟨s₁.heap,s₁.next,rd,wr⟩ ⟨s₁.heap,s₁.next,mU,lR⟩).2 c1
theorem Nm(h:LS aX lim ev)(ro:Option Nat)(g:Operand)(ps:List Tmp)(as bd:Code)(m:Tm):NM (aX=lim) (fL P O ev ro aX g ps as bd m) (fL P O ev ro lim g ps as bd m):=by
 unfold fL;cases bz g with
 |false=>exact .fail _ _
 |true=>exact(NM.ap _ _ _).bP fun ld=>(NM.ap _ _ _).bP fun fa=>(Ih h _ _).bP fun _=>(NM.ap _ _ _).bP fun _ => .ok _
theorem SZ(h:LS aX lim ev):LS aX lim (br P O ev):=by
 intro ro c m;cases c with
 |skip=>exact .ok _
 |label l=>exact .ok _
 |region id ops draw=>
  simp only[br];refine NM.bP ?_ fun _ => .ok _;cases draw with
  |true=>exact SY _ _
  |false=>exact Nl h _ _ _
 |seq a b=>
  simp only[br];refine(h _ _ _).bP fun x=>?_;cases x.1 with
  |normal=>exact h _ _ _
  |exit i=>exact .ok _
  |ret=>exact .ok _
 |cond c a b=>
  simp only[br];cases bz c with
  |false=>exact .fail _ _
  |true=>
   simp only[cond_true];generalize m.eval c=z;cases z with
   |bool t=>cases t<;>exact h _ _ _
   | _=>exact .fail _ _
 |block id c=>
  simp only[br];refine(h _ _ _).bP fun x=>?_;cases x.1<;>exact .ok _
 |loop c=>
  simp only[br];refine(h _ _ _).bP fun x=>?_;cases x.1 with
  |normal=>exact h _ _ _
  |exit i=>exact .ok _
  |ret=>exact .ok _
 |exit id=>exact .ok _
 |scope c=>exact h _ _ _
 |ret=>exact .ok _
 |rangeFunc g ps as bd=>exact Nm h _ _ _ _ _ _
 |goto l=>exact .fail _ _
 |refuse w=>exact .fail _ _
theorem GF:∀ k,LS aX lim (mQ P O k)
 |0=>fun ro c m => .fail _ _
 |k+1=>SZ (GF k)
end
section
variable (P:Program) (O:Over)
def oc(ev:iL)(lo:Nat)(x:aG)(s:HS):aO Value:=
 match x with
 | .value v => .ok v s
 | .skip => .ok dY s
 | .enter f args=>match O f args with
  |some p=>p.note s
  |none=>gV P ev lo f args s
 | .round .. => .fail "a round within a region that draws"
def Ys(ev:iL)(lo:Nat)(ops:List Oper)(o:Oper)(m:Tm)(s:HS):aO Tm:=
 bP (cond (b_ ops m o) (cond (o.op.operands.toList.all bz) (bP ((k7 P m.eval o).note s) (oc P O ev lo)) (.fail "")) (.ok dY s)) fun v s=>jt m o.dst v s
def tX(ev:iL)(ops:List Oper):List Oper→Tm→PT aj→Nat→List bO→aO (Tm×List bO)
 | [],m,h,n,fs => .ok (m,fs) (S0 h n)
 |o::r,m,h,n,fs=>bP (Ys P O ev n ops o m ⟨h,n,[],[]⟩) fun m s=>tX ev ops r m s.heap s.next (⟨n,s.next,s.rd,s.wr⟩::fs)
variable {P} {O}
theorem Yt{ev:iL}{lim:Nat}(fY:LS lim lim ev){ops:List Oper}{o:Oper}{m m':Tm}{h:PT aj}{n:Nat}{s':HS}(e:Ys P O ev lim ops o m ⟨h,n,[],[]⟩ = .ok m' s'):
  ∃ rd wr,lW P O ev lim ops o m ⟨h,n,[],[]⟩ = .ok m' ⟨s'.heap,s'.next,rd,wr⟩∧(∀ i∈rd,i∈s'.rd)∧(∀ i∈wr,i∈s'.wr):=by
 unfold Ys at e;obtain⟨v,s₁,e₁,e₂⟩:=bE e;have put:∀ rd wr,∃ m'',jt m o.dst v ⟨s₁.heap,s₁.next,rd,wr⟩ = .ok m'' ⟨s₁.heap,s₁.next,rd,wr⟩∧m''=m'∧s₁=s':=by
  intro rd wr;unfold jt at e₂ ⊢;cases hp:m.put o.dst v with
  |none=>rw[hp] at e₂;simp at e₂
  |some m₁=>rw[hp] at e₂;simp only[aO.ok.injEq] at e₂;exact⟨m₁,rfl,e₂.1,e₂.2⟩
 unfold lW;cases hw:b_ ops m o with
 |false=>
  rw[hw] at e₁;simp only[cond_false,aO.ok.injEq] at e₁;obtain⟨rfl,rfl⟩:=e₁;obtain⟨_,q,rfl,rfl⟩:=put [] [];exact⟨[],[],by simp only[cond_false,aS];exact q,fun i hi=>hi,fun i hi=>hi⟩
 |true=>
  rw[hw] at e₁;simp only[cond_true] at e₁;cases hf:o.op.operands.toList.all bz with
  |false=>rw[hf] at e₁;simp at e₁
  |true=>
   rw[hf] at e₁;simp only[cond_true] at e₁;obtain⟨x,s₂,e₃,e₄⟩:=bE e₁;obtain⟨rd,wr,q,q1,q2⟩:=fW lim _ _ _ _ e₃ [] [] (fun i hi=>by simp at hi) (fun i hi=>by simp at hi);have next:∃ rd' wr',fU P O ev lim x ⟨s₂.heap,s₂.next,rd,wr⟩ = .ok v ⟨s₁.heap,s₁.next,rd',wr'⟩∧(∀ i∈rd',i∈s₁.rd)∧(∀ i∈wr',i∈s₁.wr):=by
    cases x with
    |value u=>simp only[oc,aO.ok.injEq] at e₄;obtain⟨rfl,rfl⟩:=e₄;exact⟨rd,wr,rfl,q1,q2⟩
    |skip=>simp only[oc,aO.ok.injEq] at e₄;obtain⟨rfl,rfl⟩:=e₄;exact⟨rd,wr,rfl,q1,q2⟩
    |enter f args=>
     simp only[oc] at e₄;cases hO:O f args with
     |none=>
      rw[hO] at e₄;obtain⟨rd',wr',u,u1,u2⟩:=BF fY f args s₂.heap s₂.next s₂.rd s₂.wr v s₁ e₄ rd wr;exact⟨rd',wr',by simp only[fU,fT,hO];exact u,u1 rfl q1,u2 rfl q2⟩
     |some p=>
      rw[hO] at e₄;obtain⟨rd',wr',u,u1,u2⟩:=fW lim _ _ _ _ e₄ rd wr q1 q2;exact⟨rd',wr',by simp only[fU,fT,hO];exact u,u1,u2⟩
    |round l m as bd=>simp[oc] at e₄
   obtain⟨rd',wr',u,u1,u2⟩:=next
   obtain⟨_,q3,rfl,rfl⟩:=put rd' wr';refine⟨rd',wr',?_,u1,u2⟩;simp only[cond_true,jr,hf,q,aS,u];exact q3
structure vT(f g:bO):Prop where
 lo:f.lo=g.lo
 hi:f.hi=g.hi
 rd:∀ i∈f.rd,i∈g.rd
 wr:∀ i∈f.wr,i∈g.wr
inductive i_:List bO→List bO→Prop
 |nil:i_ [] []
 |cons (f g:bO) (l l':List bO) (h:vT f g) (t:i_ l l'):i_ (f::l) (g::l')
theorem i_.get:∀ {l l':List bO},i_ l l'→∀ i:Nat,(l[i]? = none∧l'[i]? = none)∨∃ f g,l[i]? = some f∧l'[i]? = some g∧vT f g
 | _,_,.nil,i => .inl ⟨rfl,rfl⟩
 | _,_,.cons f g l l' h t,0 => .inr ⟨f,g,rfl,rfl,h⟩
 | _,_,.cons f g l l' h t,i+1=>by simpa using t.get i
theorem tY{a b a' b':List Nat}(h1:∀ i∈a,i∈a')(h2:∀ i∈b,i∈b')(h:meets a' b'=false):meets a b=false:=by
 cases hm:meets a b with
 |false=>rfl
 |true=>
  simp only[meets,List.any_eq_true] at hm;obtain⟨x,hx,y,hy,hxy⟩:=hm;have:meets a' b'=true:=by
   simp only[meets,List.any_eq_true];exact⟨x,h1 x hx,y,h2 y hy,hxy⟩
  rw[h] at this;exact absurd this qi
theorem oS{a a':List Nat}{lo hi:Nat}(h1:∀ i∈a,i∈a')(h:bR a' lo hi=false):bR a lo hi=false:=by
 cases hm:bR a lo hi with
 |false=>rfl
 |true=>
  simp only[bR,List.any_eq_true] at hm;obtain⟨x,hx,hxy⟩:=hm;have:bR a' lo hi=true:=by
   simp only[bR,List.any_eq_true];exact⟨x,h1 x hx,hxy⟩
  rw[h] at this;exact absurd this qi
theorem Kj{f g f' g':bO}(h1:vT f f')(h2:vT g g')(h:jM f' g'=false):jM f g=false:=by
 unfold jM at*;simp only[Bool.or_eq_false_iff] at h ⊢;obtain⟨⟨⟨⟨a,b⟩,c⟩,d⟩,e⟩:=h;rw[h1.lo,h1.hi];exact⟨⟨⟨⟨tY h1.wr h2.wr a,tY h1.wr h2.rd b⟩,tY h1.rd h2.wr c⟩,oS h2.rd d⟩,oS h2.wr e⟩
theorem uV{l l':List bO}(h:i_ l l'){L:List (Nat×Nat)}(k:dc l' L=true):dc l L=true:=by
 unfold dc at*;rw[List.all_eq_true] at k ⊢;intro p hp;have:=k p hp
 rcases h.get p.1 with ⟨a,b⟩ | ⟨f,g,a,b,c⟩
 ·simp[a,b] at this
 ·rcases h.get p.2 with ⟨a',b'⟩ | ⟨f',g',a',b',c'⟩
  ·simp[a,b,a',b'] at this
  ·simp only[a,b,a',b'] at this ⊢;simp only[Bool.not_eq_true'] at this ⊢;exact Kj c c' this
theorem DP{ev:iL}(fY:∀ lim,LS lim lim ev){ops:List Oper}:∀ (r:List Oper) {m m':Tm} {h:PT aj} {n:Nat} {fs fs':List bO} {s':HS},tX P O ev ops r m h n fs = .ok (m',fs') s'→
  ∃ F G,g8 P O ev ops r m h n = .ok (m',F) s'∧fs'=G.reverse++fs∧i_ F G∧s'=S0 s'.heap s'.next
 | [],m,m',h,n,fs,fs',s',e=>by
  simp only[tX,aO.ok.injEq,Prod.mk.injEq] at e;obtain⟨⟨rfl,rfl⟩,rfl⟩:=e;exact⟨[],[],rfl,rfl,.nil,rfl⟩
 |o::r,m,m',h,n,fs,fs',s',e=>by
  simp only[tX] at e;obtain⟨m₁,s₁,e₁,e₂⟩:=bE e;obtain⟨rd,wr,q,q1,q2⟩:=Yt (fY n) e₁;obtain⟨F,G,u,rfl,u1,u2⟩:=DP fY r e₂;refine⟨⟨n,s₁.next,rd,wr⟩::F,⟨n,s₁.next,s₁.rd,s₁.wr⟩::G,?_,by simp,.cons _ _ _ _ ⟨rfl,rfl,q1,q2⟩ u1,u2⟩;simp only[g8,q,aS,u]
end
section rules
variable {z:Zx} {K:List KF} {m:Tm} {h:PT aj} {n:Nat}
def Nn(z:Zx)(L:List (Nat×Nat))(ops r:List Oper)(K:List KF)(m:Tm)(h:PT aj)(n:Nat)(fs:List bO):Prop:=
 m.n=z.N∧∃ k m' fs' h' n',tX z.P z.O (mQ z.P z.O k) ops r m h n fs = .ok (m',fs') (S0 h' n')∧dc fs'.reverse L=true∧Rs z K .normal m' h' n'
def lD(z:Zx)(L:List (Nat×Nat))(p:AP aG)(d:Option Nat)(ops r:List Oper)(K:List KF)(m:Tm)(h:PT aj)(n lo:Nat)(rd wr:List Nat)(fs:List bO):Prop:=
 m.n=z.N∧∃ k m' fs' h' n',bP (p.note ⟨h,n,rd,wr⟩) (fun x s=>bP (oc z.P z.O (mQ z.P z.O k) lo x s) fun v s=>bP (jt m d v s) fun m s=>tX z.P z.O (mQ z.P z.O k) ops r m s.heap s.next (⟨lo,s.next,s.rd,s.wr⟩::fs)) = .ok (m',fs') (S0 h' n')∧
  dc fs'.reverse L=true∧Rs z K .normal m' h' n'
theorem aB{id:Nat}{ops:Array Oper}{L:List (Nat×Nat)}(hL:aR (aU [] ops.toList) ops.toList.length=L)(hd:g9 ops.toList L=true)(e:Nn z L ops.toList ops.toList K m h n []):
  iZ z (.region id ops true) K m h n:=by
 obtain⟨hm,k,m',fs',h',n',e,hf,r⟩:=e;refine⟨hm,k+1,(.normal,m'),h',n',?_,r⟩;obtain⟨F,G,q,rfl,q1,_⟩:=DP (fun lim=>GF k) _ e;rw[dr];simp only[br,cond_true];have:fJ z.P z.O (mQ z.P z.O k) 0 ops.toList m (S0 h n) = .ok m' (S0 h' n'):=by
  unfold fJ;simp only[hL,hd,cond_true];rw[show (S0 h n).heap=h from rfl,show (S0 h n).next=n from rfl,q];simp only[aS];rw[uV q1 (by simpa using hf)];rfl
 rw[this];rfl
theorem S_{L:List (Nat×Nat)}{ops:List Oper}{fs:List bO}:Nn z L ops [] K m h n fs↔dc fs.reverse L=true∧Rs z K .normal m h n:=by
 constructor
 ·rintro ⟨hm,k,m',fs',h',n',e,hf,r⟩;simp only[tX,aO.ok.injEq,Prod.mk.injEq,S0,HS.mk.injEq] at e;obtain⟨⟨rfl,rfl⟩,rfl,rfl,_⟩:=e;exact⟨hf,r⟩
 ·rintro ⟨hf,r⟩;exact⟨By r,0,m,fs,h,n,rfl,hf,r⟩
def lS(z:Zx)(L:List (Nat×Nat))(w:Bool)(o:Oper)(ops r:List Oper)(K:List KF)(m:Tm)(h:PT aj)(n:Nat)(fs:List bO):Prop:=
 cond w (o.op.operands.toList.all bz=true∧lD z L (k7 z.P m.eval o) o.dst ops r K m h n n [] [] fs) (lD z L (.pure .skip) o.dst ops r K m h n n [] [] fs)
theorem Np{L:List (Nat×Nat)}{o:Oper}{ops r:List Oper}{fs:List bO}:Nn z L ops (o::r) K m h n fs↔lS z L (b_ ops m o) o ops r K m h n fs:=by
 unfold lS;cases hw:b_ ops m o with
 |false=>
  simp only[cond_false];refine and_congr_right fun hm=>?_;simp only[tX,Ys,hw,cond_false,AP.note,aS,oc]
 |true=>
  simp only[cond_true];constructor
  ·rintro ⟨hm,k,m',fs',h',n',e,r⟩;simp only[tX,Ys,hw,cond_true] at e;cases hf:o.op.operands.toList.all bz with
   |false=>rw[hf] at e;simp[bP] at e
   |true=>
    rw[hf] at e;simp only[cond_true,gS] at e;exact⟨rfl,hm,k,m',fs',h',n',e,r⟩
  ·rintro ⟨hf,hm,k,m',fs',h',n',e,r⟩;refine⟨hm,k,m',fs',h',n',?_,r⟩;simp only[tX,Ys,hw,cond_true,hf,gS];exact e
variable {L:List (Nat×Nat)} {d:Option Nat} {ops r:List Oper} {lo:Nat} {rd wr:List Nat} {fs:List bO}
theorem Nq{o:Oper}:lS z L true o ops r K m h n fs↔o.op.operands.toList.all bz=true∧lD z L (k7 z.P m.eval o) o.dst ops r K m h n n [] [] fs:=Iff.rfl
theorem Kk{o:Oper}:lS z L false o ops r K m h n fs↔lD z L (.pure .skip) o.dst ops r K m h n n [] [] fs:=Iff.rfl
theorem Ae{i:Nat}{v:Value}:lD z L (.pure (.value v)) (some i) ops r K m h n lo rd wr fs↔i<z.N∧Nn z L ops r K (up m i v) h n (⟨lo,n,rd,wr⟩::fs):=by
 unfold lD Nn;simp only[AP.note,aS,oc,jt,Tm.put,Yo];constructor
 ·rintro ⟨hm,k,m',fs',h',n',e,q⟩;cases hb:Nat.blt i m.n with
  |false=>rw[hb] at e;simp[bP] at e
  |true=>
   rw[hb] at e;have:=Nat.le_of_ble_eq_true hb;exact⟨by omega,hm,k,m',fs',h',n',e,q⟩
 ·rintro ⟨hi,hm,k,m',fs',h',n',e,q⟩;have hb:Nat.blt i m.n=true:=Nat.ble_eq_true_of_le qJ;exact⟨hm,k,m',fs',h',n',by rw[hb];exact e,q⟩
theorem GG{v:Value}:lD z L (.pure (.value v)) none ops r K m h n lo rd wr fs↔Nn z L ops r K m h n (⟨lo,n,rd,wr⟩::fs):=Iff.rfl
theorem Nr{i:Nat}:lD z L (.pure .skip) (some i) ops r K m h n lo rd wr fs↔i<z.N∧Nn z L ops r K (up m i dY) h n (⟨lo,n,rd,wr⟩::fs):=Ae (v:=dY)
theorem Kl:lD z L (.pure .skip) none ops r K m h n lo rd wr fs↔Nn z L ops r K m h n (⟨lo,n,rd,wr⟩::fs):=Iff.rfl
theorem Ns{w:String}:lD z L (.fail w) d ops r K m h n lo rd wr fs↔False:=by
 constructor
 ·rintro ⟨_,k,m',fs',h',n',e,_⟩;simp[AP.note,bP] at e
 ·exact False.elim
def Nt(z:Zx)(L:List (Nat×Nat))(b:Option aj)(f:aj→AP aG)(d:Option Nat)(ops r:List Oper)(K:List KF)(m:Tm)(h:PT aj)(n lo:Nat)(rd wr:List Nat)(fs:List bO):Prop:=
 match b with
 |some b=>lD z L (f b) d ops r K m h n lo rd wr fs
 |none=>False
theorem Ii{id:Nat}{f:aj→AP aG}:lD z L (.get id f) d ops r K m h n lo rd wr fs↔Nt z L (h.get id) f d ops r K m h n lo (id::rd) wr fs:=by
 unfold Nt lD;simp only[AP.note];cases hb:h.get id with
 |none=>simp[bP]
 |some b=>exact Iff.rfl
theorem Af{b:aj}{f:aj→AP aG}:Nt z L (some b) f d ops r K m h n lo rd wr fs↔lD z L (f b) d ops r K m h n lo rd wr fs:=Iff.rfl
def GH(z:Zx)(L:List (Nat×Nat))(o:Option aj)(id:Nat)(b:Option aj)(p:AP aG)(d:Option Nat)(ops r:List Oper)(K:List KF)(m:Tm)(h:PT aj)(n lo:Nat)(rd wr:List Nat)(fs:List bO):Prop:=
 match o with
 |some _=>lD z L p d ops r K m (h.set id b) n lo rd wr fs
 |none=>False
theorem Ta{id:Nat}{b:aj}{p:AP aG}:lD z L (.set id b p) d ops r K m h n lo rd wr fs↔GH z L (h.get id) id (some b) p d ops r K m h n lo rd (id::wr) fs:=by
 unfold GH lD;simp only[AP.note];cases hb:h.get id with
 |none=>simp[bP]
 |some c=>exact Iff.rfl
theorem Nu{id:Nat}{p:AP aG}:lD z L (.kill id p) d ops r K m h n lo rd wr fs↔GH z L (h.get id) id none p d ops r K m h n lo rd (id::wr) fs:=by
 unfold GH lD;simp only[AP.note];cases hb:h.get id with
 |none=>simp[bP]
 |some c=>exact Iff.rfl
theorem Km{c:aj}{id:Nat}{b:Option aj}{p:AP aG}:GH z L (some c) id b p d ops r K m h n lo rd wr fs↔lD z L p d ops r K m (h.set id b) n lo rd wr fs:=Iff.rfl
theorem Tb{b:aj}{f:Nat→AP aG}:lD z L (.new b f) d ops r K m h n lo rd wr fs↔lD z L (f n) d ops r K m (h.set n (some b)) (n+1) lo rd wr fs:=Iff.rfl
theorem jA{α β:Type}:∀ (p:AP α) (f:α→AP β) (s:HS),(p.bind f).note s=bP (p.note s) fun a s=>(f a).note s
 | .pure a,f,s=>rfl
 | .fail w,f,s=>rfl
 | .get id k,f,s=>by
  simp only[AP.bind,AP.note];cases s.heap.get id with
  |none=>rfl
  |some b=>exact jA (k b) f _
 | .set id b k,f,s=>by
  simp only[AP.bind,AP.note];cases s.heap.get id with
  |none=>rfl
  |some _=>exact jA k f _
 | .kill id k,f,s=>by
  simp only[AP.bind,AP.note];cases s.heap.get id with
  |none=>rfl
  |some _=>exact jA k f _
 | .new b k,f,s=>by
  simp only[AP.bind,AP.note];exact jA (k s.next) f _
def DQ(z:Zx)(L:List (Nat×Nat))(s:Option (AP Value))(f:FuncId)(args:List Value)(d:Option Nat)(ops r:List Oper)(K:List KF)(m:Tm)(h:PT aj)(n lo:Nat)(rd wr:List Nat)(fs:List bO):Prop:=
 match s with
 |some p=>lD z L (p.bind fun v => .pure (.value v)) d ops r K m h n lo rd wr fs
 |none=>lD z L (.pure (.enter f args)) d ops r K m h n lo rd wr fs
theorem Kn{f:FuncId}{args:List Value}:lD z L (.pure (.enter f args)) d ops r K m h n lo rd wr fs↔DQ z L (z.O f args) f args d ops r K m h n lo rd wr fs:=by
 unfold DQ;cases hO:z.O f args with
 |none=>exact Iff.rfl
 |some p=>simp only[lD,jA,gS,AP.note,aS,oc,hO]
theorem Ko{p:AP Value}{f:FuncId}{args:List Value}:DQ z L (some p) f args d ops r K m h n lo rd wr fs↔lD z L (p.bind fun v => .pure (.value v)) d ops r K m h n lo rd wr fs:=Iff.rfl
theorem tZ{P:Program}{O:Over}{ev ev':iL}(hle:xx ev ev'){ops:List Oper}:∀ (r:List Oper) {m:Tm} {h:PT aj} {n:Nat} {fs:List bO} {x:Tm×List bO} {s':HS},tX P O ev ops r m h n fs = .ok x s'→tX P O ev' ops r m h n fs = .ok x s'
 | [],_,_,_,_,_,_,e=>e
 |o::r,m,h,n,fs,x,s',e=>by
  unfold tX at e ⊢;refine cm (fun a s q=>?_) (fun a s _ b s' q=>tZ hle r q) e;unfold Ys at q ⊢;refine cm (fun a s q=>?_) (fun _ _ _ _ _ q=>q) q;cases hw:b_ ops m o with
  |false=>rw[hw] at q;exact q
  |true=>
   rw[hw] at q;simp only[cond_true] at q ⊢;cases hf:o.op.operands.toList.all bz with
   |false=>rw[hf] at q;simp at q
   |true=>
    rw[hf] at q;simp only[cond_true] at q ⊢;refine cm (fun _ _ q=>q) (fun a s _ b s' q=>?_) q;cases a with
    |value v=>exact q
    |skip=>exact q
    |round l m as bd=>exact q
    |enter f args=>
     simp only[oc] at q ⊢;cases hO:O f args with
     |none=>rw[hO] at q;exact mC hle q
     |some p=>rw[hO] at q;exact q
theorem Nv{f:FuncId}{args:List Value}{k:Nat}{v:Value}{h':PT aj}{n':Nat}(hm:m.n=z.N)(hO:z.O f args=none)(e:gV z.P (mQ z.P z.O k) 0 f args (S0 h n) = .ok v (S0 h' n'))(hk:∀ rd' wr',lD z L (.pure (.value v)) d ops r K m h' n' lo rd' wr' fs):
  lD z L (.pure (.enter f args)) d ops r K m h n lo rd wr fs:=by
 obtain⟨rd',wr',u,-,-⟩:=BF (lim:=lo) (GF k) f args h n [] [] v (S0 h' n') e rd wr;obtain⟨_,k2,m',fs',h2,n2,e2,q⟩:=hk rd' wr';refine⟨hm,max k k2,m',fs',h2,n2,?_,q⟩;simp only[AP.note,aS,oc,hO] at e2 ⊢;rw[mC (iu (Nat.le_max_left k k2)) u,aS];exact cm (fun _ _ q=>q) (fun a s _ b s' q=>tZ (iu (Nat.le_max_right k k2)) r q) e2
end rules
end Go.Am
namespace Go.Am
open Go.RowKit
def cE(P:Program)(O:Over)(f:FuncId)(args:List Value)(h:PT aj)(n:Nat)(R:Value→PT aj→Nat→Prop):Prop:=
 ∃ k v h' n',gV P (mQ P O k) 0 f args (S0 h n) = .ok v (S0 h' n')∧R v h' n'
def Tc(P:Program)(t:TypeId)(x:Value)(h:PT aj):Option Value:=match (fG P t x).run 0 (S0 h 0) with
 | .ok v _=>some v
 | .fail _=>none
def mF(P:Program)(m:Tm)(h:PT aj):List ResultVar→Option (List Value)
 | []=>some []
 | .tmp t::r=>match mF P m h r with
  |some l=>some (m.get t::l)
  |none=>none
 | .cell a t::r=>match Tc P t (m.get a) h with
  |some v=>match mF P m h r with
   |some l=>some (v::l)
   |none=>none
  |none=>none
theorem Nw{P:Program}{t:TypeId}{x:Value}{h:PT aj}{v:Value}(n:Nat)(e:Tc P t x h=some v):(fG P t x).run 0 (S0 h n) = .ok v (S0 h n):=by
 have key:∀ n,(fG P t x).run 0 (S0 h n)=match Tc P t x h with |some v => .ok v (S0 h n) |none=>(fG P t x).run 0 (S0 h n):=by
  intro n;unfold Tc fG;split
  ·rename_i a i d _ _;simp only[AP.run,show ∀ m,(S0 h m).heap=h from fun _=>rfl];cases h.get a.block with
   |none=>rfl
   |some b=>
    simp only[show Nat.blt a.block 0=false from rfl,cond_false];cases b<;>first|rfl |skip
    rename_i c ro;cases isAgg d with
    |false=>simp only[cond_false];cases c.get a.off<;>rfl
    |true=>simp only[cond_true];cases aW c a.off i.size<;>rfl
  ·rfl
 rw[key n,e]
theorem vU{P:Program}{m:Tm}{h:PT aj}{n:Nat}:∀ {rs:List ResultVar} {l:List Value},mF P m h rs=some l→cD P 0 m rs (S0 h n) = .ok l (S0 h n)
 | [],l,e=>by simp only[mF,Option.some.injEq] at e;subst e;rfl
 | .tmp t::r,l,e=>by
  simp only[mF] at e;cases hr:mF P m h r with
  |none=>rw[hr] at e;simp at e
  |some l'=>
   rw[hr] at e;simp only[Option.some.injEq] at e;subst e
   show bP (cD P 0 m r (S0 h n)) _=_
   rw[vU hr];rfl
 | .cell a t::r,l,e=>by
  simp only[mF] at e;cases hv:Tc P t (m.get a) h with
  |none=>rw[hv] at e;simp at e
  |some v=>
   rw[hv] at e;cases hr:mF P m h r with
   |none=>rw[hr] at e;simp at e
   |some l'=>
    rw[hr] at e;simp only[Option.some.injEq] at e;subst e
    show bP ((fG P t (m.get a)).run 0 (S0 h n)) _=_
    rw[Nw n hv]
    show bP (cD P 0 m r (S0 h n)) _=_
    rw[vU hr];rfl
def Fin(P:Program)(rs:List ResultVar)(R:Value→PT aj→Nat→Prop)(e:bp)(m:Tm)(h:PT aj)(n:Nat):Prop:=
 (match e with | .exit _=>False | _=>True)∧m.fF=[]∧∃ l,mF P m h rs=some l∧R (oneOf l) h n
theorem Yu{P:Program}{O:Over}{f:FuncId}{fn:Func}{c:Code}{args:List Value}{h:PT aj}{n:Nat}{R:Value→PT aj→Nat→Prop}(hf:P.funcs[f]? = some fn)(hb:fn.body=some c)
  (H:∀ z:Zx,z.P=P→z.O=O→z.ro=none→z.N=args.length+(fn.ntmps-args.length)→z.Q=Fin P fn.results.toList R→iZ z c [] ⟨args.length+(fn.ntmps-args.length),PT.ofList .leaf 0 args,[]⟩ h n):cE P O f args h n R:=by
 obtain⟨_,k,x,h',n',e,hx⟩:=H ⟨P,O,none,args.length+(fn.ntmps-args.length),Fin P fn.results.toList R⟩ rfl rfl rfl rfl rfl;obtain⟨_,hx,hd,l,hl,hR⟩:_∧Fin P fn.results.toList R x.1 x.2 h' n':=hx;refine⟨k,oneOf l,h',n',?_,hR⟩;simp only[gV,hf,hb];rw[e,aS];unfold iH;rw[hd];cases hx1:x.1 with
 |exit i=>rw[hx1] at hx;exact hx.elim
 |normal=>simp only[fB,aS];rw[vU hl];rfl
 |ret=>simp only[fB,aS];rw[vU hl];rfl
mutual
inductive jc (I:Nat→Nat→Prop) (Old:Value→Prop):Value→Value→Prop
 |old (v:Value) (h:Old v):jc I Old v v
 |bool (b:Bool):jc I Old (.bool b) (.bool b)
 |int (k:IntKind) (n:Int):jc I Old (.int k n) (.int k n)
 |string (s:ByteArray):jc I Old (.string s) (.string s)
 |gE:jc I Old (.pointer none) (.pointer none)
 |ptr (b off b':Nat) (h:I b b'):jc I Old (.pointer (some ⟨b,off,none⟩)) (.pointer (some ⟨b',off,none⟩))
 |nilslice (n c:Nat):jc I Old (.slice none n c) (.slice none n c)
 |slice (b off n c b':Nat) (h:I b b'):jc I Old (.slice (some ⟨b,off,none⟩) n c) (.slice (some ⟨b',off,none⟩) n c)
 |jv:jc I Old (.map none) (.map none)
 |map (r r':Nat) (h:I r r'):jc I Old (.map (some r)) (.map (some r'))
 |func (f:FuncId) (x x' y y':List Value) (hx:cC I Old x x') (hy:cC I Old y y'):jc I Old (.func (.func f) ⟨x⟩ ⟨y⟩) (.func (.func f) ⟨x'⟩ ⟨y'⟩)
 |iz:jc I Old .nilFunc .nilFunc
 |iface (t:TypeId) (v v':Value) (h:jc I Old v v'):jc I Old (.iface t v) (.iface t v')
 |eN:jc I Old .nilIface .nilIface
 |agg (l l':List Value) (h:cC I Old l l'):jc I Old (.agg ⟨l⟩) (.agg ⟨l'⟩)
 |tuple (l l':List Value) (h:cC I Old l l'):jc I Old (.tuple ⟨l⟩) (.tuple ⟨l'⟩)
inductive cC (I:Nat→Nat→Prop) (Old:Value→Prop):List Value→List Value→Prop
 |nil:cC I Old [] []
 |cons (v v':Value) (l l':List Value) (h:jc I Old v v') (t:cC I Old l l'):cC I Old (v::l) (v'::l')
end
theorem cC.get{I:Nat→Nat→Prop}{Old:Value→Prop}:∀ {l l':List Value} (_:cC I Old l l') {i:Nat} {v:Value},l[i]? = some v→∃ v',l'[i]? = some v'∧jc I Old v v'
 | _,_,.nil,i,v,e=>by simp at e
 | _,_,.cons _ v' _ _ h t,0,v,e=>by simp at e;subst e;exact⟨v',rfl,h⟩
 | _,_,.cons _ _ _ _ h t,i+1,v,e=>by simp at e;simpa using cC.get t e
theorem cC.refl{I:Nat→Nat→Prop}{Old:Value→Prop}:∀ (l:List Value),(∀ v∈l,jc I Old v v)→cC I Old l l
 | [],_ => .nil
 |v::l,h => .cons _ _ _ _ (h v (by simp)) (cC.refl l fun y hy=>h y (by simp[hy]))
theorem cC.append{I:Nat→Nat→Prop}{Old:Value→Prop}:∀ {l l' m m':List Value},cC I Old l l'→cC I Old m m'→cC I Old (l++m) (l'++m')
 | _,_,_,_,.nil,k=>k
 | _,_,_,_,.cons _ _ _ _ h t,k => .cons _ _ _ _ h (t.append k)
mutual
theorem jc.rel{I:Nat→Nat→Prop}{Old:Value→Prop}{Γ aY:bL}(hI:∀ j j',I j j'→aY.blk j=Γ.blk j')(hO:∀ v,Old v→∀ u,aD Γ v u→aD aY v u)(hz:aY.jo=Γ.jo):
  ∀ {v v' u:Value},jc I Old v v'→aD Γ v' u→aD aY v u
 | _,_,_,.old v h,r=>hO v h _ r
 | _,_,_,.bool b,.bool _ => .bool b
 | _,_,_,.int k n,.int _ _ => .int k n
 | _,_,_,.string s,.string _ => .string s
 | _,_,_,.gE,.gE => .gE
 | _,_,_,.ptr b off b' h,.ptr _ a' ha => .ptr _ a' ⟨rfl,ha.spot',let ⟨s,e,o⟩:=ha.at_;⟨s,(hI _ _ h).trans e,o⟩⟩
 | _,_,_,.nilslice n c,.nilslice _ _ => .nilslice n c
 | _,_,_,.slice b off n c b' h,.slice _ a' _ _ c' ha hc=>by
  refine .slice _ a' n c c' ?_ ?_
  ·rcases ha with ha | ⟨h1,h2,h3,s,h4⟩ |hz
   ·exact .inl ⟨rfl,ha.spot',let ⟨s,e,o⟩:=ha.at_;⟨s,(hI _ _ h).trans e,o⟩⟩
   ·exact .inr (.inl ⟨h1,h2,h3,s,(hI _ _ h).trans h4⟩)
   ·exact .inr (.inr hz)
  ·unfold bL.cap at hc ⊢;rw[hz];exact hc
 | _,_,_,.jv,.jv => .jv
 | _,_,_,.map r r' h,.map _ u hu => .map _ u ((hI _ _ h).trans hu)
 | _,_,_,.func f x x' y y' hx hy,.func _ fn' _ a _ b ha hb hp=>by
  refine .func _ fn' _ a _ b (cC.rel hI hO hz hx ha) (cC.rel hI hO hz hy hb) ?_;cases hp with
  |plain _ hp=>exact .plain _ hp
 | _,_,_,.iz,.iz => .iz
 | _,_,_,.iface t v v' h,.iface _ _ u hu => .iface t v u (jc.rel hI hO hz h hu)
 | _,_,_,.eN,.eN => .eN
 | _,_,_,.agg l l' h,.agg _ u hu => .agg l u (cC.rel hI hO hz h hu)
 | _,_,_,.tuple l l' h,.tuple _ u hu => .tuple l u (cC.rel hI hO hz h hu)
theorem cC.rel{I:Nat→Nat→Prop}{Old:Value→Prop}{Γ aY:bL}(hI:∀ j j',I j j'→aY.blk j=Γ.blk j')(hO:∀ v,Old v→∀ u,aD Γ v u→aD aY v u)(hz:aY.jo=Γ.jo):
  ∀ {l l' u:List Value},cC I Old l l'→aM Γ l' u→aM aY l u
 | _,_,_,.nil,.nil => .nil
 | _,_,_,.cons _ _ _ _ h t,.cons _ _ _ _ hu tu => .cons _ _ _ _ (jc.rel hI hO hz h hu) (cC.rel hI hO hz t tu)
end
mutual
theorem aD.down{Γ eP:bL}(hle:Γ.le eP):∀ {v Kq u:Value},aD Γ v Kq→aD eP v u→aD Γ v u
 | _,_,_,.bool b,.bool _ => .bool b
 | _,_,_,.int k n,.int _ _ => .int k n
 | _,_,_,.float k n,.float _ _ => .float k n
 | _,_,_,.complex k n m,.complex _ _ _ => .complex k n m
 | _,_,_,.string s,.string _ => .string s
 | _,_,_,.gE,.gE => .gE
 | _,_,_,.ptr a a₀ h₀,.ptr _ a' ha => .ptr a a' ⟨ha.spot,ha.spot',by
   obtain⟨s,e,o⟩:=ha.at_;obtain⟨s₀,e₀,_⟩:=h₀.at_;have:=hle.blk _ _ e₀;rw[e] at this;obtain⟨h1,rfl⟩:a'.block=a₀.block∧s=s₀:=by simpa using this
   exact⟨s,by rw[h1];exact e₀,o⟩⟩
 | _,_,_,.nilslice n c,.nilslice _ _ => .nilslice n c
 | _,_,_,.slice a a₀ n c c₀ h₀ k₀,.slice _ a' _ _ c' ha hc=>by
  by_cases hz:n=0∧c=0
  ·obtain⟨rfl,rfl⟩:=hz;refine .slice a a' 0 0 c' (.inr (.inr ⟨rfl,rfl⟩)) ?_;unfold bL.cap at hc ⊢;rw[if_neg (by unfold aA;omega)] at hc ⊢;exact hc
  obtain⟨s₀,e₀⟩:∃ s,Γ.blk a.block=some (a₀.block,s):=by
   rcases h₀ with h₀ |h₀ |h₀
   ·obtain⟨s,e,_⟩:=h₀.at_;exact⟨s,e⟩
   ·exact h₀.2.2.2
   ·exact absurd h₀ hz
  have e₂:=hle.blk _ _ e₀;refine .slice a a' n c c' ?_ ?_
  ·rcases ha with ha | ⟨h1,h2,h3,s,h4⟩ |ha
   rotate_left 2
   ·exact absurd ha hz
   ·refine .inl ⟨ha.spot,ha.spot',?_⟩;obtain⟨s,e,o⟩:=ha.at_;rw[e] at e₂;obtain⟨h1,rfl⟩:a'.block=a₀.block∧s=s₀:=by simpa using e₂
    exact⟨s,by rw[h1];exact e₀,o⟩
   ·refine .inr (.inl ⟨h1,h2,h3,s,?_⟩);rw[h4] at e₂;obtain⟨h1,rfl⟩:a'.block=a₀.block∧s=s₀:=by simpa using e₂
    rw[h1];exact e₀
  ·unfold bL.cap at hc k₀ ⊢;split
   ·rename_i hi;have hb:a'.block=a₀.block:=by
     obtain⟨s,e⟩:=ha.block (by unfold aA at hi;omega);rw[e] at e₂;exact(by simpa using e₂:a'.block=a₀.block∧s=s₀).1
    rw[if_pos hi] at hc k₀;obtain⟨h1,M,h2,h3⟩:=hc;obtain⟨_,apq,h4,_⟩:=k₀;have:=hle.jo _ _ h4;rw[←hb,h2] at this;obtain rfl:M=apq:=by simpa using this
    exact⟨h1,M,by rw[hb];exact h4,h3⟩
   ·rename_i hi;rw[if_neg hi] at hc;exact hc
 | _,_,_,.jv,.jv => .jv
 | _,_,_,.map r r₀ h₀,.map _ r' h=>by
  have:=hle.blk _ _ h₀;rw[h] at this;obtain rfl:r'=r₀:=by simpa using this
  exact .map _ _ h₀
 | _,_,_,.rX,.rX => .rX
 | _,_,_,.func fn _ f _ c _ hf hc hp,.func _ _ _ _ _ _ hf' VM hp'=>by
  refine .func _ _ _ _ _ _ (aM.down hle hf hf') (aM.down hle hc VM) ?_;cases hp' with
  |plain _ h=>exact .plain _ h
  |yield l l' h=>
   cases hp with
   |plain _ h'=>exact absurd rfl (h' l)
   |yield _ l₀ h₀=>
    have:=hle.blk _ _ h₀;rw[h] at this;obtain rfl:l'=l₀:=by simpa using this
    exact .yield _ _ h₀
 | _,_,_,.iz,.iz => .iz
 | _,_,_,.iface t v _ h,.iface _ _ _ h' => .iface t v _ (aD.down hle h h')
 | _,_,_,.eN,.eN => .eN
 | _,_,_,.agg l _ h,.agg _ _ h' => .agg l _ (aM.down hle h h')
 | _,_,_,.tuple l _ h,.tuple _ _ h' => .tuple l _ (aM.down hle h h')
theorem aM.down{Γ eP:bL}(hle:Γ.le eP):∀ {l Kq u:List Value},aM Γ l Kq→aM eP l u→aM Γ l u
 | _,_,_,.nil,.nil => .nil
 | _,_,_,.cons _ _ _ _ h t,.cons _ _ _ _ h' t' => .cons _ _ _ _ (aD.down hle h h') (aM.down hle t t')
end
inductive Ag (I:Nat→Nat→Prop) (Old:Value→Prop):List (Value×Value×Nat)→List (Value×Value×Nat)→Prop
 |nil:Ag I Old [] []
 |cons (p q:Value×Value×Nat) (l l':List (Value×Value×Nat)) (hk:jc I Old p.1 q.1) (hv:jc I Old p.2.1 q.2.1) (hb:p.2.2=q.2.2) (t:Ag I Old l l'):Ag I Old (p::l) (q::l')
theorem Ag.rel{I:Nat→Nat→Prop}{Old:Value→Prop}{Γ aY:bL}(hI:∀ j j',I j j'→aY.blk j=Γ.blk j')(hO:∀ v,Old v→∀ u,aD Γ v u→aD aY v u)(hz:aY.jo=Γ.jo):
  ∀ {l l':List (Value×Value×Nat)} {u:List MapEntry},Ag I Old l l'→bZ Γ l' u→bZ aY l u
 | _,_,_,.nil,.nil => .nil
 | _,_,_,.cons _ _ _ _ hk hv hb t,.cons _ _ _ _ hk' hv' hb' t' => .cons _ _ _ _ (hk.rel hI hO hz hk') (hv.rel hI hO hz hv') (hb.trans hb') (t.rel hI hO hz t')
inductive GI (I:Nat→Nat→Prop) (Old:Value→Prop):aj→aj→Prop
 |cells (l l':List Value) (ro:Bool) (h:cC I Old l l'):GI I Old (.cells (PT.ofList .leaf 0 l) ro) (.cells (PT.ofList .leaf 0 l') ro)
 |map (es es':List (Value×Value×Nat)) (clk:Nat) (h:Ag I Old es es'):GI I Old (.map es clk) (.map es' clk)
theorem GI.rel{I:Nat→Nat→Prop}{Old:Value→Prop}{Γ aY:bL}{w:World}(hI:∀ j j',I j j'→aY.blk j=Γ.blk j')(hO:∀ v,Old v→∀ u,aD Γ v u→aD aY v u)(hz:aY.jo=Γ.jo){B B':aj}{b s:Nat}
  (h:GI I Old B B') (r:m_ Γ w B' b s):m_ aY w B b s:=by
 cases h with
 |cells l l' ro h=>
  obtain⟨cs,el,fz,h1,h2,h3⟩:=r;refine⟨cs,el,fz,h1,h2,fun i v e=>?_⟩;rw[PT.aQ] at e;obtain⟨v',e',q⟩:=h.get e;obtain⟨u,e₂,q₂⟩:=h3 i v' (by rw[PT.aQ];exact e');exact⟨u,e₂,q.rel hI hO hz q₂⟩
 |map es es' clk h=>
  obtain⟨h0,aZ,h1,h2⟩:=r;exact⟨h0,aZ,h1,h.rel hI hO hz h2⟩
theorem GI.cV{I:Nat→Nat→Prop}{Old:Value→Prop}{B B':aj}(h:GI I Old B B'):B.cV↔B'.cV:=by cases h<;>exact Iff.rfl
theorem bZ.down{Γ eP:bL}(hle:Γ.le eP):∀ {l:List (Value×Value×Nat)} {Kq u:List MapEntry},bZ Γ l Kq→bZ eP l u→bZ Γ l u
 | _,_,_,.nil,.nil => .nil
 | _,_,_,.cons _ _ _ _ hk hv hb t,.cons _ _ _ _ hk' hv' hb' t' => .cons _ _ _ _ (aD.down hle hk hk') (aD.down hle hv hv') hb' (bZ.down hle t t')
theorem m_.down{Γ eP:bL}(hle:Γ.le eP){w w₂:World}{B:aj}{b s:Nat}(h₀:m_ Γ w B b s)(h:m_ eP w₂ B b s):m_ Γ w₂ B b s:=by
 cases B with
 |cells c ro=>
  obtain⟨atY,atZ,at0,_,_,NA⟩:=h₀;obtain⟨cs,el,fz,h1,h2,h3⟩:=h;refine⟨cs,el,fz,h1,h2,fun i v e=>?_⟩;obtain⟨Kq,_,apr⟩:=NA i v e;obtain⟨u,e',q⟩:=h3 i v e;exact⟨u,e',aD.down hle apr q⟩
 |map es clk=>
  obtain⟨_,ahJ,_,adg⟩:=h₀;obtain⟨h0,aZ,h1,h2⟩:=h;exact⟨h0,aZ,h1,bZ.down hle adg h2⟩
 |iter m since seen stepped=>
  obtain⟨_,m₀,_,_,NA⟩:=h₀;obtain⟨h0,m',h1,h2,h3⟩:=h;refine⟨h0,m',h1,h2,fun r hr=>?_⟩;obtain⟨r₀,_,e₀⟩:=NA r hr;obtain⟨r',e',e⟩:=h3 r hr;have:=hle.blk _ _ e₀;rw[e] at this;obtain rfl:r'=r₀:=by simpa using this
  exact⟨r',e',e₀⟩
 |loop st h_ tm ps as bd=>
  obtain⟨_,aC1,_,_,_,ht₀,_⟩:=h₀;obtain⟨h0,L,h1,h2,h3,ht,h5⟩:=h;exact⟨h0,L,h1,h2,h3,⟨ht.size,fun i=>aD.down hle (ht₀.get i) (ht.get i)⟩,h5⟩
 |deferred=>exact h
end Go.Am
