/-
  A part of the proof: contracts of inner functions.
-/
import Derived.Test.YtbceiadaihphaaaGreatAmX3
set_option linter.unusedSimpArgs false
set_option linter.unusedVariables false
namespace Go.Am
def AP.note {α:Type}:AP α→HS→bw α
 | .pure a,s => .ok a s
 | .fail why,_ => .fail why
 | .get id k,s=>match s.heap.get id with
  |none => .fail "get"
  |some b=>(k b).note { s with rd:=id::s.rd }
 | .set id b k,s=>match s.heap.get id with
  |none => .fail "set"
  |some _=>k.note { s with heap:=s.heap.set id (some b),wr:=id::s.wr }
 | .kill id k,s=>match s.heap.get id with
  |none => .fail "kill"
  |some _=>k.note { s with heap:=s.heap.set id none,wr:=id::s.wr }
 | .new b k,s=>(k s.next).note { s with heap:=s.heap.set s.next (some b),next:=Nat.succ s.next }
theorem kD {id:Nat} {l l':List Nat} (hl:∀ i∈l,i∈l') {i:Nat} (hi:i∈cond true (ins id l) l):i∈id::l':=by
 simp only[cond_true,ins] at hi
 cases ha:l.any (Nat.beq id) with
 |true=>rw[ha] at hi;exact List.mem_cons_of_mem _ (hl i hi)
 |false=>
  rw[ha] at hi
  rcases List.mem_cons.1 hi with rfl |hi
  ·exact List.mem_cons_self
  ·exact List.mem_cons_of_mem _ (hl i hi)
theorem jP {α:Type} (lim:Nat):∀ (p:AP α) (s:HS) (a:α) (s':HS),p.note s = .ok a s'→∀ rd wr,(∀ i∈rd,i∈s.rd)→(∀ i∈wr,i∈s.wr)→
  ∃ rd' wr',p.run lim ⟨s.heap,s.next,rd,wr⟩ = .ok a ⟨s'.heap,s'.next,rd',wr'⟩∧(∀ i∈rd',i∈s'.rd)∧(∀ i∈wr',i∈s'.wr)
 | .pure a,s,b,s',e,rd,wr,h1,h2=>by
  simp only[AP.note,bw.ok.injEq] at e
  obtain⟨rfl,rfl⟩:=e
  exact⟨rd,wr,rfl,h1,h2⟩
 | .fail w,s,b,s',e,rd,wr,h1,h2=>by simp[AP.note] at e
 | .get id k,s,b,s',e,rd,wr,h1,h2=>by
  simp only[AP.note] at e
  cases hb:s.heap.get id with
  |none=>rw[hb] at e;simp at e
  |some B=>
   rw[hb] at e
   simp only at e
   have:=jP lim (k B) _ b s' e (cond (Nat.blt id lim) (ins id rd) rd) wr (fun i hi=>?_) h2
   ·obtain⟨rd',wr',q,q1,q2⟩:=this
    refine⟨rd',wr',?_,q1,q2⟩
    simp only[AP.run,hb]
    cases hl:Nat.blt id lim<;>simp only[hl,cond_true,cond_false] at q ⊢<;>exact q
   ·cases hl:Nat.blt id lim with
    |false=>rw[hl] at hi;exact List.mem_cons_of_mem _ (h1 i hi)
    |true=>
     rw[hl] at hi
     exact kD h1 hi
 | .set id c k,s,b,s',e,rd,wr,h1,h2=>by
  simp only[AP.note] at e
  cases hb:s.heap.get id with
  |none=>rw[hb] at e;simp at e
  |some B=>
   rw[hb] at e
   simp only at e
   have:=jP lim k _ b s' e rd (cond (Nat.blt id lim) (ins id wr) wr) h1 (fun i hi=>?_)
   ·obtain⟨rd',wr',q,q1,q2⟩:=this
    refine⟨rd',wr',?_,q1,q2⟩
    simp only[AP.run,hb]
    cases hl:Nat.blt id lim<;>simp only[hl,cond_true,cond_false] at q ⊢<;>exact q
   ·cases hl:Nat.blt id lim with
    |false=>rw[hl] at hi;exact List.mem_cons_of_mem _ (h2 i hi)
    |true=>
     rw[hl] at hi
     exact kD h2 hi
 | .kill id k,s,b,s',e,rd,wr,h1,h2=>by
  simp only[AP.note] at e
  cases hb:s.heap.get id with
  |none=>rw[hb] at e;simp at e
  |some B=>
   rw[hb] at e
   simp only at e
   have:=jP lim k _ b s' e rd (cond (Nat.blt id lim) (ins id wr) wr) h1 (fun i hi=>?_)
   ·obtain⟨rd',wr',q,q1,q2⟩:=this
    refine⟨rd',wr',?_,q1,q2⟩
    simp only[AP.run,hb]
    cases hl:Nat.blt id lim<;>simp only[hl,cond_true,cond_false] at q ⊢<;>exact q
   ·cases hl:Nat.blt id lim with
    |false=>rw[hl] at hi;exact List.mem_cons_of_mem _ (h2 i hi)
    |true=>
     rw[hl] at hi
     exact kD h2 hi
 | .new c k,s,b,s',e,rd,wr,h1,h2=>by
  simp only[AP.note] at e
  exact jP lim (k s.next) _ b s' e rd wr h1 h2
def NM (e:Prop) {α:Type} (F0 F:HS→bw α):Prop:=∀ h n tQ s7 a s,F0 ⟨h,n,tQ,s7⟩ = .ok a s→∀ rd wr,∃ rd' wr',F ⟨h,n,rd,wr⟩ = .ok a ⟨s.heap,s.next,rd',wr'⟩∧(e→Sub rd tQ→Sub rd' s.rd)∧(e→Sub wr s7→Sub wr' s.wr)
theorem NM.bT {e:Prop} {α β:Type} {F0 F:HS→bw α} {k0 k:α→HS→bw β} (hF:NM e F0 F) (hk:∀ a,NM e (k0 a) (k a)):NM e (fun s=>bT (F0 s) k0) (fun s=>bT (F s) k):=by
 intro h n tQ s7 b s q rd wr
 obtain⟨a,s₁,q1,q2⟩:=bz q
 obtain⟨rd',wr',u,u1,u2⟩:=hF h n tQ s7 a s₁ q1 rd wr
 obtain⟨rd2,wr2,v,v1,v2⟩:=hk a s₁.heap s₁.next s₁.rd s₁.wr b s q2 rd' wr'
 exact⟨rd2,wr2,by show Go.Am.bT _ _=_;rw[u,aK];exact v,fun c c1=>v1 c (u1 c c1),fun c c1=>v2 c (u2 c c1)⟩
theorem NM.ok {e:Prop} {α:Type} (a:α):NM e (fun s => .ok a s) (fun s => .ok a s):=fun h n tQ s7 b s q rd wr=>by
 simp only[bw.ok.injEq] at q
 obtain⟨rfl,rfl⟩:=q
 exact⟨rd,wr,rfl,fun _ c=>c,fun _ c=>c⟩
theorem NM.fail {e:Prop} {α:Type} (w:String) (F:HS→bw α):NM e (fun _=>(.fail w:bw α)) F:=fun h n tQ s7 b s q rd wr=>by simp at q
theorem uK {lim id:Nat} {l l':List Nat} (h:Sub l l'):Sub (cond (Nat.blt id lim) (ins id l) l) (cond (Nat.blt id lim) (ins id l') l'):=by
 cases Nat.blt id lim with
 |false=>exact h
 |true=>exact fun x hx=>fN.2 ((fN.1 hx).imp (fun c=>c) (h x))
theorem NM.ap {α:Type} (cr lim:Nat):∀ (p:AP α),NM (cr=lim) (fun s=>p.run cr s) (fun s=>p.run lim s)
 | .pure a=>fun h n tQ s7 b s q rd wr=>by
  simp only[AP.run,bw.ok.injEq] at q
  obtain⟨rfl,rfl⟩:=q
  exact⟨rd,wr,rfl,fun _ c=>c,fun _ c=>c⟩
 | .fail w=>fun h n tQ s7 b s q rd wr=>by simp[AP.run] at q
 | .get id k=>fun h n tQ s7 b s q rd wr=>by
  simp only[AP.run] at q ⊢
  cases hb:h.get id with
  |none=>rw[hb] at q;simp at q
  |some B=>
   rw[hb] at q
   simp only at q
   have e0:∀ l r w,(match Nat.blt id l with |true=>(⟨h,n,ins id r,w⟩:HS) |false=>⟨h,n,r,w⟩)=⟨h,n,cond (Nat.blt id l) (ins id r) r,w⟩:=fun l r w=>by cases Nat.blt id l<;>rfl
   have q':(k B).run cr ⟨h,n,cond (Nat.blt id cr) (ins id tQ) tQ,s7⟩ = .ok b s:=by
    cases hl:Nat.blt id cr<;>simp only[hl,cond_true,cond_false] at q ⊢<;>exact q
   obtain⟨rd',wr',u,u1,u2⟩:=NM.ap cr lim (k B) h n _ _ b s q' (cond (Nat.blt id lim) (ins id rd) rd) wr
   refine⟨rd',wr',?_,fun c c1=>u1 c (by subst c;exact uK c1),u2⟩
   cases hl:Nat.blt id lim<;>simp only[hl,cond_true,cond_false] at u ⊢<;>exact u
 | .set id B k=>fun h n tQ s7 b s q rd wr=>by
  simp only[AP.run] at q ⊢
  cases hb:h.get id with
  |none=>rw[hb] at q;simp at q
  |some B'=>
   rw[hb] at q
   simp only at q
   have q':k.run cr ⟨h.set id (some B),n,tQ,cond (Nat.blt id cr) (ins id s7) s7⟩ = .ok b s:=by
    cases hl:Nat.blt id cr<;>simp only[hl,cond_true,cond_false] at q ⊢<;>exact q
   obtain⟨rd',wr',u,u1,u2⟩:=NM.ap cr lim k (h.set id (some B)) n _ _ b s q' rd (cond (Nat.blt id lim) (ins id wr) wr)
   refine⟨rd',wr',?_,u1,fun c c1=>u2 c (by subst c;exact uK c1)⟩
   cases hl:Nat.blt id lim<;>simp only[hl,cond_true,cond_false] at u ⊢<;>exact u
 | .kill id k=>fun h n tQ s7 b s q rd wr=>by
  simp only[AP.run] at q ⊢
  cases hb:h.get id with
  |none=>rw[hb] at q;simp at q
  |some B'=>
   rw[hb] at q
   simp only at q
   have q':k.run cr ⟨h.set id none,n,tQ,cond (Nat.blt id cr) (ins id s7) s7⟩ = .ok b s:=by
    cases hl:Nat.blt id cr<;>simp only[hl,cond_true,cond_false] at q ⊢<;>exact q
   obtain⟨rd',wr',u,u1,u2⟩:=NM.ap cr lim k (h.set id none) n _ _ b s q' rd (cond (Nat.blt id lim) (ins id wr) wr)
   refine⟨rd',wr',?_,u1,fun c c1=>u2 c (by subst c;exact uK c1)⟩
   cases hl:Nat.blt id lim<;>simp only[hl,cond_true,cond_false] at u ⊢<;>exact u
 | .new B k=>fun h n tQ s7 b s q rd wr=>by
  simp only[AP.run] at q ⊢
  exact NM.ap cr lim (k n) (h.set n (some B)) (n+1) _ _ b s q rd wr
section
variable {P:Program} {O:dK} {cr lim:Nat}
def CJ (cr lim:Nat) (ev:ke):Prop:=∀ ro c m,NM (cr=lim) (fun s=>ev ro cr c m s) (fun s=>ev ro lim c m s)
variable {ev:ke}
theorem nP:∀ l,NM (cr=lim) (eI cr l) (eI lim l)
 | [] => .ok _
 |d::r=>(NM.ap cr lim (mH d)).bT fun _=>nP r
theorem kE (m:Tm):∀ l,NM (cr=lim) (cP P cr m l) (cP P lim m l)
 | [] => .ok _
 | .tmp t::r=>(kE m r).bT fun l => .ok (m.get t::l)
 | .cell a t::r=>(NM.ap cr lim (fT P t (m.get a))).bT fun v=>(kE m r).bT fun l => .ok (v::l)
theorem D3 (rs:List ResultVar) (x:bJ×Tm):NM (cr=lim) (iR P cr rs x) (iR P lim rs x):=by
 unfold iR
 cases x.1 with
 |exit id=>exact .fail _ _
 |normal=>exact(nP _).bT fun _=>(kE _ _).bT fun _ => .ok _
 |ret=>exact(nP _).bT fun _=>(kE _ _).bT fun _ => .ok _
theorem uL (h:CJ cr lim ev) (f:FuncId) (args:List Value):NM (cr=lim) (fZ P ev cr f args) (fZ P ev lim f args):=by
 unfold fZ
 cases P.funcs[f]? with
 |none=>exact .fail _ _
 |some fn=>
  simp only
  cases fn.body with
  |none=>exact .fail _ _
  |some c=>exact(h _ _ _).bT fun _=>D3 _ _
theorem z_ (h:CJ cr lim ev) (f:FuncId) (args:List Value):NM (cr=lim) (fD P O ev cr f args) (fD P O ev lim f args):=by
 unfold fD
 cases O f args with
 |none=>exact uL h f args
 |some m=>exact NM.ap _ _ m
theorem D4 (h:CJ cr lim ev) (l:Nat) (m:Tm) (as bd:Code):NM (cr=lim) (fP ev cr l m as bd) (fP ev lim l m as bd):=by
 unfold fP
 refine(h _ _ _).bT fun x=>?_
 cases x.1 with
 |normal=>exact(NM.ap _ _ _).bT fun _=>(h _ _ _).bT fun _=>NM.ap _ _ _
 |exit i=>exact .fail _ _
 |ret=>exact .fail _ _
theorem Hg (h:CJ cr lim ev) (x:aJ):NM (cr=lim) (f_ P O ev cr x) (f_ P O ev lim x):=by
 cases x with
 |value v=>exact .ok _
 |skip=>exact .ok _
 |enter f args=>exact z_ h f args
 |round l m as bd=>exact D4 h l m as bd
theorem K4 (m:Tm) (d:Option Nat) (v:Value) {e:Prop}:NM e (jI m d v) (jI m d v):=by
 unfold jI
 cases m.put d v with
 |none=>exact .fail _ _
 |some m=>exact .ok _
theorem P2 (h:CJ cr lim ev) (ops:List Oper) (o:Oper) (m:Tm):NM (cr=lim) (n6 P O ev cr ops o m) (n6 P O ev lim ops o m):=by
 unfold n6
 refine NM.bT ?_ fun v=>K4 m _ v
 cases cI ops m o with
 |false=>exact .ok _
 |true=>
  show NM _ (jH P O ev cr m.eval o) (jH P O ev lim m.eval o)
  unfold jH
  cases o.op.operands.toList.all bt with
  |false=>exact .fail _ _
  |true=>exact(NM.ap _ _ _).bT fun x=>Hg h x
theorem D5 (h:CJ cr lim ev) (ops:List Oper):∀ (r:List Oper) (m:Tm),NM (cr=lim) (bX P O ev cr ops r m) (bX P O ev lim ops r m)
 | [],m => .ok _
 |o::r,m=>(P2 h ops o m).bT fun m=>D5 h ops r m
theorem tR {lim:Nat} {l a b:List Nat} (h:Sub a b):Sub (below lim l a) (below lim l b):=fun x hx=>(jM l b x).2 (((jM l a x).1 hx).imp (fun c=>c) (h x))
theorem wA {lim:Nat}:∀ (fs:List cm) (s:HS),(aU lim fs s).heap=s.heap∧(aU lim fs s).next=s.next
 | [],s=>⟨rfl,rfl⟩
 |f::fs,s=>wA fs _
theorem mO {lim:Nat}:∀ (fs:List cm) (s s':HS),(Sub s.rd s'.rd→Sub (aU lim fs s).rd (aU lim fs s').rd)∧(Sub s.wr s'.wr→Sub (aU lim fs s).wr (aU lim fs s').wr)
 | [],s,s'=>⟨fun h=>h,fun h=>h⟩
 |f::fs,s,s'=>⟨fun h=>(mO fs _ _).1 (tR h),fun h=>(mO fs _ _).2 (tR h)⟩
theorem Hh (ops:List Oper) (m:Tm):NM (cr=lim) (ga P O ev cr ops m) (ga P O ev lim ops m):=by
 intro H n tQ s7 a s e rd wr
 unfold ga at e ⊢
 cases hd:iq ops (a_ (aY [] ops) ops.length) with
 |false=>rw[hd] at e;simp at e
 |true=>
  rw[hd] at e
  simp only[cond_true] at e ⊢
  obtain⟨x,s₁,e₁,e₂⟩:=bz e
  have zY:jg P O ev ops ops m H n = .ok x s₁:=e₁
  cases hf:dU x.2 (a_ (aY [] ops) ops.length) with
  |false=>rw[hf] at e₂;simp at e₂
  |true=>
   rw[hf] at e₂
   simp only[cond_true,bw.ok.injEq] at e₂
   obtain⟨rfl,e₂⟩:=e₂
   rw[show jg P O ev ops ops m (⟨H,n,rd,wr⟩:HS).heap (⟨H,n,rd,wr⟩:HS).next = .ok x s₁ from zY,aK]
   simp only[hf,cond_true]
   have hh:∀ l (r w:List Nat),(cond (Nat.beq l 0) (⟨s₁.heap,s₁.next,r,w⟩:HS) (aU l x.2 ⟨s₁.heap,s₁.next,r,w⟩)).heap=s₁.heap∧(cond (Nat.beq l 0) (⟨s₁.heap,s₁.next,r,w⟩:HS) (aU l x.2 ⟨s₁.heap,s₁.next,r,w⟩)).next=s₁.next:=fun l r w=>by
    cases Nat.beq l 0 with
    |true=>exact⟨rfl,rfl⟩
    |false=>exact wA x.2 ⟨s₁.heap,s₁.next,r,w⟩
   have h1:=hh lim rd wr
   have h0:=hh cr tQ s7
   rw[e₂] at h0
   have eta:∀ X:HS,X.heap=s₁.heap→X.next=s₁.next→X=⟨s.heap,s.next,X.rd,X.wr⟩:=fun X a b=>by rw[h0.1,h0.2,←a,←b]
   refine⟨_,_,congrArg (bw.ok x.1) (show _=(⟨s.heap,s.next,(cond (Nat.beq lim 0) (⟨s₁.heap,s₁.next,rd,wr⟩:HS) (aU lim x.2 ⟨s₁.heap,s₁.next,rd,wr⟩)).rd,(cond (Nat.beq lim 0) (⟨s₁.heap,s₁.next,rd,wr⟩:HS) (aU lim x.2 ⟨s₁.heap,s₁.next,rd,wr⟩)).wr⟩:HS) from ?_),fun c c1=>?_,fun c c1=>?_⟩
   ·exact eta _ h1.1 h1.2
   ·subst c
    rw[←e₂]
    cases Nat.beq cr 0 with
    |true=>exact c1
    |false=>exact(mO x.2 ⟨s₁.heap,s₁.next,rd,wr⟩ ⟨s₁.heap,s₁.next,tQ,s7⟩).1 c1
   ·subst c
    rw[←e₂]
    cases Nat.beq cr 0 with
    |true=>exact c1
    |false=>exact(mO x.2 ⟨s₁.heap,s₁.next,rd,wr⟩ ⟨s₁.heap,s₁.next,tQ,s7⟩).2 c1
theorem D6 (h:CJ cr lim ev) (ro:Option Nat) (g:Operand) (ps:List Tmp) (as bd:Code) (m:Tm):NM (cr=lim) (fQ P O ev ro cr g ps as bd m) (fQ P O ev ro lim g ps as bd m):=by
 unfold fQ
 cases bt g with
 |false=>exact .fail _ _
 |true=>exact(NM.ap _ _ _).bT fun ld=>(NM.ap _ _ _).bT fun fa=>(z_ h _ _).bT fun _=>(NM.ap _ _ _).bT fun _ => .ok _
theorem Hj (h:CJ cr lim ev):CJ cr lim (bD P O ev):=by
 intro ro c m
 cases c with
 |skip=>exact .ok _
 |label l=>exact .ok _
 |region id ops draw=>
  simp only[bD]
  refine NM.bT ?_ fun _ => .ok _
  cases draw with
  |true=>exact Hh _ _
  |false=>exact D5 h _ _ _
 |seq a b=>
  simp only[bD]
  refine(h _ _ _).bT fun x=>?_
  cases x.1 with
  |normal=>exact h _ _ _
  |exit i=>exact .ok _
  |ret=>exact .ok _
 |cond c a b=>
  simp only[bD]
  cases bt c with
  |false=>exact .fail _ _
  |true=>
   simp only[cond_true]
   generalize m.eval c=z
   cases z with
   |bool t=>cases t<;>exact h _ _ _
   | _=>exact .fail _ _
 |block id c=>
  simp only[bD]
  refine(h _ _ _).bT fun x=>?_
  cases x.1<;>exact .ok _
 |loop c=>
  simp only[bD]
  refine(h _ _ _).bT fun x=>?_
  cases x.1 with
  |normal=>exact h _ _ _
  |exit i=>exact .ok _
  |ret=>exact .ok _
 |exit id=>exact .ok _
 |scope c=>exact h _ _ _
 |ret=>exact .ok _
 |rangeFunc g ps as bd=>exact D6 h _ _ _ _ _ _
 |goto l=>exact .fail _ _
 |refuse w=>exact .fail _ _
theorem yO:∀ k,CJ cr lim (kX P O k)
 |0=>fun ro c m => .fail _ _
 |k+1=>Hj (yO k)
end
section
variable (P:Program) (O:dK)
def lP (ev:ke) (lo:Nat) (x:aJ) (s:HS):bw Value:=
 match x with
 | .value v => .ok v s
 | .skip => .ok ij s
 | .enter f args=>match O f args with
  |some p=>p.note s
  |none=>fZ P ev lo f args s
 | .round .. => .fail "a round within a region that draws"
def K5 (ev:ke) (lo:Nat) (ops:List Oper) (o:Oper) (m:Tm) (s:HS):bw Tm:=
 bT (cond (cI ops m o) (cond (o.op.operands.toList.all bt) (bT ((jA P m.eval o).note s) (lP P O ev lo)) (.fail "")) (.ok ij s)) fun v s=>jI m o.dst v s
def pL (ev:ke) (ops:List Oper):List Oper→Tm→PT aj→Nat→List cm→bw (Tm×List cm)
 | [],m,h,n,fs => .ok (m,fs) (S0 h n)
 |o::r,m,h,n,fs=>bT (K5 P O ev n ops o m ⟨h,n,[],[]⟩) fun m s=>pL ev ops r m s.heap s.next (⟨n,s.next,s.rd,s.wr⟩::fs)
variable {P} {O}
theorem K6 {ev:ke} {lim:Nat} (cR:CJ lim lim ev) {ops:List Oper} {o:Oper} {m m':Tm} {h:PT aj} {n:Nat} {s':HS} (e:K5 P O ev lim ops o m ⟨h,n,[],[]⟩ = .ok m' s'):
  ∃ rd wr,n6 P O ev lim ops o m ⟨h,n,[],[]⟩ = .ok m' ⟨s'.heap,s'.next,rd,wr⟩∧(∀ i∈rd,i∈s'.rd)∧(∀ i∈wr,i∈s'.wr):=by
 unfold K5 at e
 obtain⟨v,s₁,e₁,e₂⟩:=bz e
 have put:∀ rd wr,∃ m'',jI m o.dst v ⟨s₁.heap,s₁.next,rd,wr⟩ = .ok m'' ⟨s₁.heap,s₁.next,rd,wr⟩∧m''=m'∧s₁=s':=by
  intro rd wr
  unfold jI at e₂ ⊢
  cases hp:m.put o.dst v with
  |none=>rw[hp] at e₂;simp at e₂
  |some m₁=>rw[hp] at e₂;simp only[bw.ok.injEq] at e₂;exact⟨m₁,rfl,e₂.1,e₂.2⟩
 unfold n6
 cases hw:cI ops m o with
 |false=>
  rw[hw] at e₁
  simp only[cond_false,bw.ok.injEq] at e₁
  obtain⟨rfl,rfl⟩:=e₁
  obtain⟨_,q,rfl,rfl⟩:=put [] []
  exact⟨[],[],by simp only[cond_false,aK];exact q,fun i hi=>hi,fun i hi=>hi⟩
 |true=>
  rw[hw] at e₁
  simp only[cond_true] at e₁
  cases hf:o.op.operands.toList.all bt with
  |false=>rw[hf] at e₁;simp at e₁
  |true=>
   rw[hf] at e₁
   simp only[cond_true] at e₁
   obtain⟨x,s₂,e₃,e₄⟩:=bz e₁
   obtain⟨rd,wr,q,q1,q2⟩:=jP lim _ _ _ _ e₃ [] [] (fun i hi=>by simp at hi) (fun i hi=>by simp at hi)
   have next:∃ rd' wr',f_ P O ev lim x ⟨s₂.heap,s₂.next,rd,wr⟩ = .ok v ⟨s₁.heap,s₁.next,rd',wr'⟩∧(∀ i∈rd',i∈s₁.rd)∧(∀ i∈wr',i∈s₁.wr):=by
    cases x with
    |value u=>simp only[lP,bw.ok.injEq] at e₄;obtain⟨rfl,rfl⟩:=e₄;exact⟨rd,wr,rfl,q1,q2⟩
    |skip=>simp only[lP,bw.ok.injEq] at e₄;obtain⟨rfl,rfl⟩:=e₄;exact⟨rd,wr,rfl,q1,q2⟩
    |enter f args=>
     simp only[lP] at e₄
     cases hO:O f args with
     |none=>
      rw[hO] at e₄
      obtain⟨rd',wr',u,u1,u2⟩:=uL cR f args s₂.heap s₂.next s₂.rd s₂.wr v s₁ e₄ rd wr
      exact⟨rd',wr',by simp only[f_,fD,hO];exact u,u1 rfl q1,u2 rfl q2⟩
     |some p=>
      rw[hO] at e₄
      obtain⟨rd',wr',u,u1,u2⟩:=jP lim _ _ _ _ e₄ rd wr q1 q2
      exact⟨rd',wr',by simp only[f_,fD,hO];exact u,u1,u2⟩
    |round l m as bd=>simp[lP] at e₄
   obtain⟨rd',wr',u,u1,u2⟩:=next
   obtain⟨_,q3,rfl,rfl⟩:=put rd' wr'
   refine⟨rd',wr',?_,u1,u2⟩
   simp only[cond_true,jH,hf,q,aK,u]
   exact q3
structure qL (f g:cm):Prop where
 lo:f.lo=g.lo
 hi:f.hi=g.hi
 rd:∀ i∈f.rd,i∈g.rd
 wr:∀ i∈f.wr,i∈g.wr
inductive iW:List cm→List cm→Prop
 |nil:iW [] []
 |cons (f g:cm) (l l':List cm) (h:qL f g) (t:iW l l'):iW (f::l) (g::l')
theorem iW.get:∀ {l l':List cm},iW l l'→∀ i:Nat,(l[i]? = none∧l'[i]? = none)∨∃ f g,l[i]? = some f∧l'[i]? = some g∧qL f g
 | _,_,.nil,i => .inl ⟨rfl,rfl⟩
 | _,_,.cons f g l l' h t,0 => .inr ⟨f,g,rfl,rfl,h⟩
 | _,_,.cons f g l l' h t,i+1=>by simpa using t.get i
theorem pM {a b a' b':List Nat} (h1:∀ i∈a,i∈a') (h2:∀ i∈b,i∈b') (h:meets a' b'=false):meets a b=false:=by
 cases hm:meets a b with
 |false=>rfl
 |true=>
  simp only[meets,List.any_eq_true] at hm
  obtain⟨x,hx,y,hy,hxy⟩:=hm
  have:meets a' b'=true:=by
   simp only[meets,List.any_eq_true]
   exact⟨x,h1 x hx,y,h2 y hy,hxy⟩
  rw[h] at this
  exact absurd this (by decide)
theorem lQ {a a':List Nat} {lo hi:Nat} (h1:∀ i∈a,i∈a') (h:bZ a' lo hi=false):bZ a lo hi=false:=by
 cases hm:bZ a lo hi with
 |false=>rfl
 |true=>
  simp only[bZ,List.any_eq_true] at hm
  obtain⟨x,hx,hxy⟩:=hm
  have:bZ a' lo hi=true:=by
   simp only[bZ,List.any_eq_true]
   exact⟨x,h1 x hx,hxy⟩
  rw[h] at this
  exact absurd this (by decide)
theorem Bn {f g f' g':cm} (h1:qL f f') (h2:qL g g') (h:jk f' g'=false):jk f g=false:=by
 unfold jk at*
 simp only[Bool.or_eq_false_iff] at h ⊢
 obtain⟨⟨⟨⟨a,b⟩,c⟩,d⟩,e⟩:=h
 rw[h1.lo,h1.hi]
 exact⟨⟨⟨⟨pM h1.wr h2.wr a,pM h1.wr h2.rd b⟩,pM h1.rd h2.wr c⟩,lQ h2.rd d⟩,lQ h2.wr e⟩
theorem wB {l l':List cm} (h:iW l l') {L:List (Nat×Nat)} (k:dU l' L=true):dU l L=true:=by
 unfold dU at*
 rw[List.all_eq_true] at k ⊢
 intro p hp
 have:=k p hp
 rcases h.get p.1 with ⟨a,b⟩ | ⟨f,g,a,b,c⟩
 ·simp[a,b] at this
 ·rcases h.get p.2 with ⟨a',b'⟩ | ⟨f',g',a',b',c'⟩
  ·simp[a,b,a',b'] at this
  ·simp only[a,b,a',b'] at this ⊢
   simp only[Bool.not_eq_true'] at this ⊢
   exact Bn c c' this
theorem wC {ev:ke} (cR:∀ lim,CJ lim lim ev) {ops:List Oper}:∀ (r:List Oper) {m m':Tm} {h:PT aj} {n:Nat} {fs fs':List cm} {s':HS},pL P O ev ops r m h n fs = .ok (m',fs') s'→
  ∃ F G,jg P O ev ops r m h n = .ok (m',F) s'∧fs'=G.reverse++fs∧iW F G∧s'=S0 s'.heap s'.next
 | [],m,m',h,n,fs,fs',s',e=>by
  simp only[pL,bw.ok.injEq,Prod.mk.injEq] at e
  obtain⟨⟨rfl,rfl⟩,rfl⟩:=e
  exact⟨[],[],rfl,rfl,.nil,rfl⟩
 |o::r,m,m',h,n,fs,fs',s',e=>by
  simp only[pL] at e
  obtain⟨m₁,s₁,e₁,e₂⟩:=bz e
  obtain⟨rd,wr,q,q1,q2⟩:=K6 (cR n) e₁
  obtain⟨F,G,u,rfl,u1,u2⟩:=wC cR r e₂
  refine⟨⟨n,s₁.next,rd,wr⟩::F,⟨n,s₁.next,s₁.rd,s₁.wr⟩::G,?_,by simp,.cons _ _ _ _ ⟨rfl,rfl,q1,q2⟩ u1,u2⟩
  simp only[jg,q,aK,u]
end
section rules
variable {z:Zx} {K:List KF} {m:Tm} {h:PT aj} {n:Nat}
def CK (z:Zx) (L:List (Nat×Nat)) (ops r:List Oper) (K:List KF) (m:Tm) (h:PT aj) (n:Nat) (fs:List cm):Prop:=
 m.n=z.N∧∃ k m' fs' h' n',pL z.P z.O (kX z.P z.O k) ops r m h n fs = .ok (m',fs') (S0 h' n')∧dU fs'.reverse L=true∧Rs z K .normal m' h' n'
def nr (z:Zx) (L:List (Nat×Nat)) (p:AP aJ) (d:Option Nat) (ops r:List Oper) (K:List KF) (m:Tm) (h:PT aj) (n lo:Nat) (rd wr:List Nat) (fs:List cm):Prop:=
 m.n=z.N∧∃ k m' fs' h' n',bT (p.note ⟨h,n,rd,wr⟩) (fun x s=>bT (lP z.P z.O (kX z.P z.O k) lo x s) fun v s=>bT (jI m d v s) fun m s=>pL z.P z.O (kX z.P z.O k) ops r m s.heap s.next (⟨lo,s.next,s.rd,s.wr⟩::fs)) = .ok (m',fs') (S0 h' n')∧
  dU fs'.reverse L=true∧Rs z K .normal m' h' n'
theorem D7 {id:Nat} {ops:Array Oper} {L:List (Nat×Nat)} (hL:a_ (aY [] ops.toList) ops.toList.length=L) (hd:iq ops.toList L=true) (e:CK z L ops.toList ops.toList K m h n []):
  eZ z (.region id ops true) K m h n:=by
 obtain⟨hm,k,m',fs',h',n',e,hf,r⟩:=e
 refine⟨hm,k+1,(.normal,m'),h',n',?_,r⟩
 obtain⟨F,G,q,rfl,q1,_⟩:=wC (fun lim=>yO k) _ e
 rw[cD]
 simp only[bD,cond_true]
 have:ga z.P z.O (kX z.P z.O k) 0 ops.toList m (S0 h n) = .ok m' (S0 h' n'):=by
  unfold ga
  simp only[hL,hd,cond_true]
  rw[show (S0 h n).heap=h from rfl,show (S0 h n).next=n from rfl,q]
  simp only[aK]
  rw[wB q1 (by simpa using hf)]
  rfl
 rw[this]
 rfl
theorem Hl {L:List (Nat×Nat)} {ops:List Oper} {fs:List cm}:CK z L ops [] K m h n fs↔dU fs.reverse L=true∧Rs z K .normal m h n:=by
 constructor
 ·rintro ⟨hm,k,m',fs',h',n',e,hf,r⟩
  simp only[pL,bw.ok.injEq,Prod.mk.injEq,S0,HS.mk.injEq] at e
  obtain⟨⟨rfl,rfl⟩,rfl,rfl,_⟩:=e
  exact⟨hf,r⟩
 ·rintro ⟨hf,r⟩
  exact⟨uH r,0,m,fs,h,n,rfl,hf,r⟩
def jC (z:Zx) (L:List (Nat×Nat)) (w:Bool) (o:Oper) (ops r:List Oper) (K:List KF) (m:Tm) (h:PT aj) (n:Nat) (fs:List cm):Prop:=
 cond w (o.op.operands.toList.all bt=true∧nr z L (jA z.P m.eval o) o.dst ops r K m h n n [] [] fs) (nr z L (.pure .skip) o.dst ops r K m h n n [] [] fs)
theorem D8 {L:List (Nat×Nat)} {o:Oper} {ops r:List Oper} {fs:List cm}:CK z L ops (o::r) K m h n fs↔jC z L (cI ops m o) o ops r K m h n fs:=by
 unfold jC
 cases hw:cI ops m o with
 |false=>
  simp only[cond_false]
  refine and_congr_right fun hm=>?_
  simp only[pL,K5,hw,cond_false,AP.note,aK,lP]
 |true=>
  simp only[cond_true]
  constructor
  ·rintro ⟨hm,k,m',fs',h',n',e,r⟩
   simp only[pL,K5,hw,cond_true] at e
   cases hf:o.op.operands.toList.all bt with
   |false=>rw[hf] at e;simp[bT] at e
   |true=>
    rw[hf] at e
    simp only[cond_true,iF] at e
    exact⟨rfl,hm,k,m',fs',h',n',e,r⟩
  ·rintro ⟨hf,hm,k,m',fs',h',n',e,r⟩
   refine⟨hm,k,m',fs',h',n',?_,r⟩
   simp only[pL,K5,hw,cond_true,hf,iF]
   exact e
variable {L:List (Nat×Nat)} {d:Option Nat} {ops r:List Oper} {lo:Nat} {rd wr:List Nat} {fs:List cm}
theorem D9 {o:Oper}:jC z L true o ops r K m h n fs↔o.op.operands.toList.all bt=true∧nr z L (jA z.P m.eval o) o.dst ops r K m h n n [] [] fs:=Iff.rfl
theorem Bo {o:Oper}:jC z L false o ops r K m h n fs↔nr z L (.pure .skip) o.dst ops r K m h n n [] [] fs:=Iff.rfl
theorem tS {i:Nat} {v:Value}:nr z L (.pure (.value v)) (some i) ops r K m h n lo rd wr fs↔i<z.N∧CK z L ops r K (up m i v) h n (⟨lo,n,rd,wr⟩::fs):=by
 unfold nr CK
 simp only[AP.note,aK,lP,jI,Tm.put,K0]
 constructor
 ·rintro ⟨hm,k,m',fs',h',n',e,q⟩
  cases hb:Nat.blt i m.n with
  |false=>rw[hb] at e;simp[bT] at e
  |true=>
   rw[hb] at e
   have:=Nat.le_of_ble_eq_true hb
   exact⟨by omega,hm,k,m',fs',h',n',e,q⟩
 ·rintro ⟨hi,hm,k,m',fs',h',n',e,q⟩
  have hb:Nat.blt i m.n=true:=Nat.ble_eq_true_of_le (by omega)
  exact⟨hm,k,m',fs',h',n',by rw[hb];exact e,q⟩
theorem yP {v:Value}:nr z L (.pure (.value v)) none ops r K m h n lo rd wr fs↔CK z L ops r K m h n (⟨lo,n,rd,wr⟩::fs):=Iff.rfl
theorem D_ {i:Nat}:nr z L (.pure .skip) (some i) ops r K m h n lo rd wr fs↔i<z.N∧CK z L ops r K (up m i ij) h n (⟨lo,n,rd,wr⟩::fs):=tS (v:=ij)
theorem Bp:nr z L (.pure .skip) none ops r K m h n lo rd wr fs↔CK z L ops r K m h n (⟨lo,n,rd,wr⟩::fs):=Iff.rfl
theorem Ea {w:String}:nr z L (.fail w) d ops r K m h n lo rd wr fs↔False:=by
 constructor
 ·rintro ⟨_,k,m',fs',h',n',e,_⟩;simp[AP.note,bT] at e
 ·exact False.elim
def Eb (z:Zx) (L:List (Nat×Nat)) (b:Option aj) (f:aj→AP aJ) (d:Option Nat) (ops r:List Oper) (K:List KF) (m:Tm) (h:PT aj) (n lo:Nat) (rd wr:List Nat) (fs:List cm):Prop:=
 match b with
 |some b=>nr z L (f b) d ops r K m h n lo rd wr fs
 |none=>False
theorem Ho {id:Nat} {f:aj→AP aJ}:nr z L (.get id f) d ops r K m h n lo rd wr fs↔Eb z L (h.get id) f d ops r K m h n lo (id::rd) wr fs:=by
 unfold Eb nr
 simp only[AP.note]
 cases hb:h.get id with
 |none=>simp[bT]
 |some b=>exact Iff.rfl
theorem Bq {b:aj} {f:aj→AP aJ}:Eb z L (some b) f d ops r K m h n lo rd wr fs↔nr z L (f b) d ops r K m h n lo rd wr fs:=Iff.rfl
def yQ (z:Zx) (L:List (Nat×Nat)) (o:Option aj) (id:Nat) (b:Option aj) (p:AP aJ) (d:Option Nat) (ops r:List Oper) (K:List KF) (m:Tm) (h:PT aj) (n lo:Nat) (rd wr:List Nat) (fs:List cm):Prop:=
 match o with
 |some _=>nr z L p d ops r K m (h.set id b) n lo rd wr fs
 |none=>False
theorem Hp {id:Nat} {b:aj} {p:AP aJ}:nr z L (.set id b p) d ops r K m h n lo rd wr fs↔yQ z L (h.get id) id (some b) p d ops r K m h n lo rd (id::wr) fs:=by
 unfold yQ nr
 simp only[AP.note]
 cases hb:h.get id with
 |none=>simp[bT]
 |some c=>exact Iff.rfl
theorem Ec {id:Nat} {p:AP aJ}:nr z L (.kill id p) d ops r K m h n lo rd wr fs↔yQ z L (h.get id) id none p d ops r K m h n lo rd (id::wr) fs:=by
 unfold yQ nr
 simp only[AP.note]
 cases hb:h.get id with
 |none=>simp[bT]
 |some c=>exact Iff.rfl
theorem Br {c:aj} {id:Nat} {b:Option aj} {p:AP aJ}:yQ z L (some c) id b p d ops r K m h n lo rd wr fs↔nr z L p d ops r K m (h.set id b) n lo rd wr fs:=Iff.rfl
theorem Hq {b:aj} {f:Nat→AP aJ}:nr z L (.new b f) d ops r K m h n lo rd wr fs↔nr z L (f n) d ops r K m (h.set n (some b)) (n+1) lo rd wr fs:=Iff.rfl
theorem jQ {α β:Type}:∀ (p:AP α) (f:α→AP β) (s:HS),(p.bind f).note s=bT (p.note s) fun a s=>(f a).note s
 | .pure a,f,s=>rfl
 | .fail w,f,s=>rfl
 | .get id k,f,s=>by
  simp only[AP.bind,AP.note]
  cases s.heap.get id with
  |none=>rfl
  |some b=>exact jQ (k b) f _
 | .set id b k,f,s=>by
  simp only[AP.bind,AP.note]
  cases s.heap.get id with
  |none=>rfl
  |some _=>exact jQ k f _
 | .kill id k,f,s=>by
  simp only[AP.bind,AP.note]
  cases s.heap.get id with
  |none=>rfl
  |some _=>exact jQ k f _
 | .new b k,f,s=>by
  simp only[AP.bind,AP.note]
  exact jQ (k s.next) f _
def Bs (z:Zx) (L:List (Nat×Nat)) (s:Option (AP Value)) (f:FuncId) (args:List Value) (d:Option Nat) (ops r:List Oper) (K:List KF) (m:Tm) (h:PT aj) (n lo:Nat) (rd wr:List Nat) (fs:List cm):Prop:=
 match s with
 |some p=>nr z L (p.bind fun v => .pure (.value v)) d ops r K m h n lo rd wr fs
 |none=>nr z L (.pure (.enter f args)) d ops r K m h n lo rd wr fs
theorem Bt {f:FuncId} {args:List Value}:nr z L (.pure (.enter f args)) d ops r K m h n lo rd wr fs↔Bs z L (z.O f args) f args d ops r K m h n lo rd wr fs:=by
 unfold Bs
 cases hO:z.O f args with
 |none=>exact Iff.rfl
 |some p=>simp only[nr,jQ,iF,AP.note,aK,lP,hO]
theorem Bu {p:AP Value} {f:FuncId} {args:List Value}:Bs z L (some p) f args d ops r K m h n lo rd wr fs↔nr z L (p.bind fun v => .pure (.value v)) d ops r K m h n lo rd wr fs:=Iff.rfl
theorem tT {P:Program} {O:dK} {ev ev':ke} (hle:rX ev ev') {ops:List Oper}:∀ (r:List Oper) {m:Tm} {h:PT aj} {n:Nat} {fs:List cm} {x:Tm×List cm} {s':HS},pL P O ev ops r m h n fs = .ok x s'→pL P O ev' ops r m h n fs = .ok x s'
 | [],_,_,_,_,_,_,e=>e
 |o::r,m,h,n,fs,x,s',e=>by
  unfold pL at e ⊢
  refine bN (fun a s q=>?_) (fun a s _ b s' q=>tT hle r q) e
  unfold K5 at q ⊢
  refine bN (fun a s q=>?_) (fun _ _ _ _ _ q=>q) q
  cases hw:cI ops m o with
  |false=>rw[hw] at q;exact q
  |true=>
   rw[hw] at q
   simp only[cond_true] at q ⊢
   cases hf:o.op.operands.toList.all bt with
   |false=>rw[hf] at q;simp at q
   |true=>
    rw[hf] at q
    simp only[cond_true] at q ⊢
    refine bN (fun _ _ q=>q) (fun a s _ b s' q=>?_) q
    cases a with
    |value v=>exact q
    |skip=>exact q
    |round l m as bd=>exact q
    |enter f args=>
     simp only[lP] at q ⊢
     cases hO:O f args with
     |none=>rw[hO] at q;exact mN hle q
     |some p=>rw[hO] at q;exact q
theorem Ed {f:FuncId} {args:List Value} {k:Nat} {v:Value} {h':PT aj} {n':Nat} (hm:m.n=z.N) (hO:z.O f args=none) (e:fZ z.P (kX z.P z.O k) 0 f args (S0 h n) = .ok v (S0 h' n')) (hk:∀ rd' wr',nr z L (.pure (.value v)) d ops r K m h' n' lo rd' wr' fs):
  nr z L (.pure (.enter f args)) d ops r K m h n lo rd wr fs:=by
 obtain⟨rd',wr',u,-,-⟩:=uL (lim:=lo) (yO k) f args h n [] [] v (S0 h' n') e rd wr
 obtain⟨_,k2,m',fs',h2,n2,e2,q⟩:=hk rd' wr'
 refine⟨hm,max k k2,m',fs',h2,n2,?_,q⟩
 simp only[AP.note,aK,lP,hO] at e2 ⊢
 rw[mN (ez (Nat.le_max_left k k2)) u,aK]
 exact bN (fun _ _ q=>q) (fun a s _ b s' q=>tT (ez (Nat.le_max_right k k2)) r q) e2
end rules
end Go.Am
namespace Go.Am
open Go.RowKit
def b9 (P:Program) (O:dK) (f:FuncId) (args:List Value) (h:PT aj) (n:Nat) (R:Value→PT aj→Nat→Prop):Prop:=
 ∃ k v h' n',fZ P (kX P O k) 0 f args (S0 h n) = .ok v (S0 h' n')∧R v h' n'
def Hr (P:Program) (t:TypeId) (x:Value) (h:PT aj):Option Value:=match (fT P t x).run 0 (S0 h 0) with
 | .ok v _=>some v
 | .fail _=>none
def jh (P:Program) (m:Tm) (h:PT aj):List ResultVar→Option (List Value)
 | []=>some []
 | .tmp t::r=>match jh P m h r with
  |some l=>some (m.get t::l)
  |none=>none
 | .cell a t::r=>match Hr P t (m.get a) h with
  |some v=>match jh P m h r with
   |some l=>some (v::l)
   |none=>none
  |none=>none
theorem Ee {P:Program} {t:TypeId} {x:Value} {h:PT aj} {v:Value} (n:Nat) (e:Hr P t x h=some v):(fT P t x).run 0 (S0 h n) = .ok v (S0 h n):=by
 have key:∀ n,(fT P t x).run 0 (S0 h n)=match Hr P t x h with |some v => .ok v (S0 h n) |none=>(fT P t x).run 0 (S0 h n):=by
  intro n
  unfold Hr fT
  split
  ·rename_i a i d _ _
   simp only[AP.run,show ∀ m,(S0 h m).heap=h from fun _=>rfl]
   cases h.get a.block with
   |none=>rfl
   |some b=>
    simp only[show Nat.blt a.block 0=false from rfl,cond_false]
    cases b<;>first |rfl |skip
    rename_i c ro
    cases isAgg d with
    |false=>simp only[cond_false];cases c.get a.off<;>rfl
    |true=>simp only[cond_true];cases bp c a.off i.size<;>rfl
  ·rfl
 rw[key n,e]
theorem mP {P:Program} {m:Tm} {h:PT aj} {n:Nat}:∀ {rs:List ResultVar} {l:List Value},jh P m h rs=some l→cP P 0 m rs (S0 h n) = .ok l (S0 h n)
 | [],l,e=>by simp only[jh,Option.some.injEq] at e;subst e;rfl
 | .tmp t::r,l,e=>by
  simp only[jh] at e
  cases hr:jh P m h r with
  |none=>rw[hr] at e;simp at e
  |some l'=>
   rw[hr] at e
   simp only[Option.some.injEq] at e
   subst e
   show bT (cP P 0 m r (S0 h n)) _=_
   rw[mP hr];rfl
 | .cell a t::r,l,e=>by
  simp only[jh] at e
  cases hv:Hr P t (m.get a) h with
  |none=>rw[hv] at e;simp at e
  |some v=>
   rw[hv] at e
   cases hr:jh P m h r with
   |none=>rw[hr] at e;simp at e
   |some l'=>
    rw[hr] at e
    simp only[Option.some.injEq] at e
    subst e
    show bT ((fT P t (m.get a)).run 0 (S0 h n)) _=_
    rw[Ee n hv]
    show bT (cP P 0 m r (S0 h n)) _=_
    rw[mP hr];rfl
def Fin (P:Program) (rs:List ResultVar) (R:Value→PT aj→Nat→Prop) (e:bJ) (m:Tm) (h:PT aj) (n:Nat):Prop:=
 (match e with | .exit _=>False | _=>True)∧m.gD=[]∧∃ l,jh P m h rs=some l∧R (oneOf l) h n
theorem K7 {P:Program} {O:dK} {f:FuncId} {fn:Func} {c:Code} {args:List Value} {h:PT aj} {n:Nat} {R:Value→PT aj→Nat→Prop} (hf:P.funcs[f]? = some fn) (hb:fn.body=some c)
  (H:∀ z:Zx,z.P=P→z.O=O→z.ro=none→z.N=args.length+(fn.ntmps-args.length)→z.Q=Fin P fn.results.toList R→eZ z c [] ⟨args.length+(fn.ntmps-args.length),PT.ofList .leaf 0 args,[]⟩ h n):b9 P O f args h n R:=by
 obtain⟨_,k,x,h',n',e,hx⟩:=H ⟨P,O,none,args.length+(fn.ntmps-args.length),Fin P fn.results.toList R⟩ rfl rfl rfl rfl rfl
 obtain⟨_,hx,hd,l,hl,hR⟩:_∧Fin P fn.results.toList R x.1 x.2 h' n':=hx
 refine⟨k,oneOf l,h',n',?_,hR⟩
 simp only[fZ,hf,hb]
 rw[e,aK]
 unfold iR
 rw[hd]
 cases hx1:x.1 with
 |exit i=>rw[hx1] at hx;exact hx.elim
 |normal=>simp only[eI,aK];rw[mP hl];rfl
 |ret=>simp only[eI,aK];rw[mP hl];rfl
mutual
inductive gl (I:Nat→Nat→Prop) (Old:Value→Prop):Value→Value→Prop
 |old (v:Value) (h:Old v):gl I Old v v
 |bool (b:Bool):gl I Old (.bool b) (.bool b)
 |int (k:IntKind) (n:Int):gl I Old (.int k n) (.int k n)
 |string (s:ByteArray):gl I Old (.string s) (.string s)
 |gE:gl I Old (.pointer none) (.pointer none)
 |ptr (b off b':Nat) (h:I b b'):gl I Old (.pointer (some ⟨b,off,none⟩)) (.pointer (some ⟨b',off,none⟩))
 |nilslice (n c:Nat):gl I Old (.slice none n c) (.slice none n c)
 |slice (b off n c b':Nat) (h:I b b'):gl I Old (.slice (some ⟨b,off,none⟩) n c) (.slice (some ⟨b',off,none⟩) n c)
 |gF:gl I Old (.map none) (.map none)
 |map (r r':Nat) (h:I r r'):gl I Old (.map (some r)) (.map (some r'))
 |func (f:FuncId) (x x' y y':List Value) (hx:cY I Old x x') (hy:cY I Old y y'):gl I Old (.func (.func f) ⟨x⟩ ⟨y⟩) (.func (.func f) ⟨x'⟩ ⟨y'⟩)
 |fJ:gl I Old .nilFunc .nilFunc
 |iface (t:TypeId) (v v':Value) (h:gl I Old v v'):gl I Old (.iface t v) (.iface t v')
 |dh:gl I Old .nilIface .nilIface
 |agg (l l':List Value) (h:cY I Old l l'):gl I Old (.agg ⟨l⟩) (.agg ⟨l'⟩)
 |tuple (l l':List Value) (h:cY I Old l l'):gl I Old (.tuple ⟨l⟩) (.tuple ⟨l'⟩)
inductive cY (I:Nat→Nat→Prop) (Old:Value→Prop):List Value→List Value→Prop
 |nil:cY I Old [] []
 |cons (v v':Value) (l l':List Value) (h:gl I Old v v') (t:cY I Old l l'):cY I Old (v::l) (v'::l')
end
theorem cY.get {I:Nat→Nat→Prop} {Old:Value→Prop}:∀ {l l':List Value} (_:cY I Old l l') {i:Nat} {v:Value},l[i]? = some v→∃ v',l'[i]? = some v'∧gl I Old v v'
 | _,_,.nil,i,v,e=>by simp at e
 | _,_,.cons _ v' _ _ h t,0,v,e=>by simp at e;subst e;exact⟨v',rfl,h⟩
 | _,_,.cons _ _ _ _ h t,i+1,v,e=>by simp at e;simpa using cY.get t e
theorem cY.refl {I:Nat→Nat→Prop} {Old:Value→Prop}:∀ (l:List Value),(∀ v∈l,gl I Old v v)→cY I Old l l
 | [],_ => .nil
 |v::l,h => .cons _ _ _ _ (h v (by simp)) (cY.refl l fun y hy=>h y (by simp[hy]))
theorem cY.append {I:Nat→Nat→Prop} {Old:Value→Prop}:∀ {l l' m m':List Value},cY I Old l l'→cY I Old m m'→cY I Old (l++m) (l'++m')
 | _,_,_,_,.nil,k=>k
 | _,_,_,_,.cons _ _ _ _ h t,k => .cons _ _ _ _ h (t.append k)
mutual
theorem gl.rel {I:Nat→Nat→Prop} {Old:Value→Prop} {Γ aS:bu} (hI:∀ j j',I j j'→aS.bW j=Γ.bW j') (hO:∀ v,Old v→∀ u,aF Γ v u→aF aS v u) (hz:aS.iB=Γ.iB):
  ∀ {v v' u:Value},gl I Old v v'→aF Γ v' u→aF aS v u
 | _,_,_,.old v h,r=>hO v h _ r
 | _,_,_,.bool b,.bool _ => .bool b
 | _,_,_,.int k n,.int _ _ => .int k n
 | _,_,_,.string s,.string _ => .string s
 | _,_,_,.gE,.gE => .gE
 | _,_,_,.ptr b off b' h,.ptr _ a' ha => .ptr _ a' ⟨rfl,ha.spot',let ⟨s,e,o⟩:=ha.at_;⟨s,(hI _ _ h).trans e,o⟩⟩
 | _,_,_,.nilslice n c,.nilslice _ _ => .nilslice n c
 | _,_,_,.slice b off n c b' h,.slice _ a' _ _ c' ha hc=>by
  refine .slice _ a' n c c' ?_ ?_
  ·rcases ha with ha | ⟨h1,h2,h3,s,h4⟩ |hz
   ·exact .inl ⟨rfl,ha.spot',let ⟨s,e,o⟩:=ha.at_;⟨s,(hI _ _ h).trans e,o⟩⟩
   ·exact .inr (.inl ⟨h1,h2,h3,s,(hI _ _ h).trans h4⟩)
   ·exact .inr (.inr hz)
  ·unfold bu.cap at hc ⊢
   rw[hz];exact hc
 | _,_,_,.gF,.gF => .gF
 | _,_,_,.map r r' h,.map _ u hu => .map _ u ((hI _ _ h).trans hu)
 | _,_,_,.func f x x' y y' hx hy,.func _ fn' _ a _ b ha hb hp=>by
  refine .func _ fn' _ a _ b (cY.rel hI hO hz hx ha) (cY.rel hI hO hz hy hb) ?_
  cases hp with
  |plain _ hp=>exact .plain _ hp
 | _,_,_,.fJ,.fJ => .fJ
 | _,_,_,.iface t v v' h,.iface _ _ u hu => .iface t v u (gl.rel hI hO hz h hu)
 | _,_,_,.dh,.dh => .dh
 | _,_,_,.agg l l' h,.agg _ u hu => .agg l u (cY.rel hI hO hz h hu)
 | _,_,_,.tuple l l' h,.tuple _ u hu => .tuple l u (cY.rel hI hO hz h hu)
theorem cY.rel {I:Nat→Nat→Prop} {Old:Value→Prop} {Γ aS:bu} (hI:∀ j j',I j j'→aS.bW j=Γ.bW j') (hO:∀ v,Old v→∀ u,aF Γ v u→aF aS v u) (hz:aS.iB=Γ.iB):
  ∀ {l l' u:List Value},cY I Old l l'→aH Γ l' u→aH aS l u
 | _,_,_,.nil,.nil => .nil
 | _,_,_,.cons _ _ _ _ h t,.cons _ _ _ _ hu tu => .cons _ _ _ _ (gl.rel hI hO hz h hu) (cY.rel hI hO hz t tu)
end
mutual
theorem aF.down {Γ dD:bu} (hle:Γ.le dD):∀ {v Bv u:Value},aF Γ v Bv→aF dD v u→aF Γ v u
 | _,_,_,.bool b,.bool _ => .bool b
 | _,_,_,.int k n,.int _ _ => .int k n
 | _,_,_,.float k n,.float _ _ => .float k n
 | _,_,_,.complex k n m,.complex _ _ _ => .complex k n m
 | _,_,_,.string s,.string _ => .string s
 | _,_,_,.gE,.gE => .gE
 | _,_,_,.ptr a a₀ h₀,.ptr _ a' ha => .ptr a a' ⟨ha.spot,ha.spot',by
   obtain⟨s,e,o⟩:=ha.at_
   obtain⟨s₀,e₀,_⟩:=h₀.at_
   have:=hle.bW _ _ e₀
   rw[e] at this
   obtain⟨h1,rfl⟩:a'.block=a₀.block∧s=s₀:=by simpa using this
   exact⟨s,by rw[h1];exact e₀,o⟩⟩
 | _,_,_,.nilslice n c,.nilslice _ _ => .nilslice n c
 | _,_,_,.slice a a₀ n c c₀ h₀ k₀,.slice _ a' _ _ c' ha hc=>by
  by_cases hz:n=0∧c=0
  ·obtain⟨rfl,rfl⟩:=hz
   refine .slice a a' 0 0 c' (.inr (.inr ⟨rfl,rfl⟩)) ?_
   unfold bu.cap at hc ⊢
   rw[if_neg (by unfold aB;omega)] at hc ⊢
   exact hc
  obtain⟨s₀,e₀⟩:∃ s,Γ.bW a.block=some (a₀.block,s):=by
   rcases h₀ with h₀ |h₀ |h₀
   ·obtain⟨s,e,_⟩:=h₀.at_;exact⟨s,e⟩
   ·exact h₀.2.2.2
   ·exact absurd h₀ hz
  have e₂:=hle.bW _ _ e₀
  refine .slice a a' n c c' ?_ ?_
  ·rcases ha with ha | ⟨h1,h2,h3,s,h4⟩ |ha
   rotate_left 2
   ·exact absurd ha hz
   ·refine .inl ⟨ha.spot,ha.spot',?_⟩
    obtain⟨s,e,o⟩:=ha.at_
    rw[e] at e₂
    obtain⟨h1,rfl⟩:a'.block=a₀.block∧s=s₀:=by simpa using e₂
    exact⟨s,by rw[h1];exact e₀,o⟩
   ·refine .inr (.inl ⟨h1,h2,h3,s,?_⟩)
    rw[h4] at e₂
    obtain⟨h1,rfl⟩:a'.block=a₀.block∧s=s₀:=by simpa using e₂
    rw[h1];exact e₀
  ·unfold bu.cap at hc k₀ ⊢
   split
   ·rename_i hi
    have hb:a'.block=a₀.block:=by
     obtain⟨s,e⟩:=ha.block (by unfold aB at hi;omega)
     rw[e] at e₂
     exact(by simpa using e₂:a'.block=a₀.block∧s=s₀).1
    rw[if_pos hi] at hc k₀
    obtain⟨h1,M,h2,h3⟩:=hc
    obtain⟨_,Xa,h4,_⟩:=k₀
    have:=hle.iB _ _ h4
    rw[←hb,h2] at this
    obtain rfl:M=Xa:=by simpa using this
    exact⟨h1,M,by rw[hb];exact h4,h3⟩
   ·rename_i hi
    rw[if_neg hi] at hc
    exact hc
 | _,_,_,.gF,.gF => .gF
 | _,_,_,.map r r₀ h₀,.map _ r' h=>by
  have:=hle.bW _ _ h₀
  rw[h] at this
  obtain rfl:r'=r₀:=by simpa using this
  exact .map _ _ h₀
 | _,_,_,.ot,.ot => .ot
 | _,_,_,.func fn _ f _ c _ hf hc hp,.func _ _ _ _ _ _ hf' Jo wD=>by
  refine .func _ _ _ _ _ _ (aH.down hle hf hf') (aH.down hle hc Jo) ?_
  cases wD with
  |plain _ h=>exact .plain _ h
  |yield l l' h=>
   cases hp with
   |plain _ h'=>exact absurd rfl (h' l)
   |yield _ l₀ h₀=>
    have:=hle.bW _ _ h₀
    rw[h] at this
    obtain rfl:l'=l₀:=by simpa using this
    exact .yield _ _ h₀
 | _,_,_,.fJ,.fJ => .fJ
 | _,_,_,.iface t v _ h,.iface _ _ _ h' => .iface t v _ (aF.down hle h h')
 | _,_,_,.dh,.dh => .dh
 | _,_,_,.agg l _ h,.agg _ _ h' => .agg l _ (aH.down hle h h')
 | _,_,_,.tuple l _ h,.tuple _ _ h' => .tuple l _ (aH.down hle h h')
theorem aH.down {Γ dD:bu} (hle:Γ.le dD):∀ {l Bv u:List Value},aH Γ l Bv→aH dD l u→aH Γ l u
 | _,_,_,.nil,.nil => .nil
 | _,_,_,.cons _ _ _ _ h t,.cons _ _ _ _ h' t' => .cons _ _ _ _ (aF.down hle h h') (aH.down hle t t')
end
inductive tU (I:Nat→Nat→Prop) (Old:Value→Prop):List (Value×Value×Nat)→List (Value×Value×Nat)→Prop
 |nil:tU I Old [] []
 |cons (p q:Value×Value×Nat) (l l':List (Value×Value×Nat)) (hk:gl I Old p.1 q.1) (hv:gl I Old p.2.1 q.2.1) (hb:p.2.2=q.2.2) (t:tU I Old l l'):tU I Old (p::l) (q::l')
theorem tU.rel {I:Nat→Nat→Prop} {Old:Value→Prop} {Γ aS:bu} (hI:∀ j j',I j j'→aS.bW j=Γ.bW j') (hO:∀ v,Old v→∀ u,aF Γ v u→aF aS v u) (hz:aS.iB=Γ.iB):
  ∀ {l l':List (Value×Value×Nat)} {u:List MapEntry},tU I Old l l'→bL Γ l' u→bL aS l u
 | _,_,_,.nil,.nil => .nil
 | _,_,_,.cons _ _ _ _ hk hv hb t,.cons _ _ _ _ hk' PD hb' t' => .cons _ _ _ _ (hk.rel hI hO hz hk') (hv.rel hI hO hz PD) (hb.trans hb') (t.rel hI hO hz t')
inductive yR (I:Nat→Nat→Prop) (Old:Value→Prop):aj→aj→Prop
 |cells (l l':List Value) (ro:Bool) (h:cY I Old l l'):yR I Old (.cells (PT.ofList .leaf 0 l) ro) (.cells (PT.ofList .leaf 0 l') ro)
 |map (es es':List (Value×Value×Nat)) (clk:Nat) (h:tU I Old es es'):yR I Old (.map es clk) (.map es' clk)
theorem yR.rel {I:Nat→Nat→Prop} {Old:Value→Prop} {Γ aS:bu} {w:World} (hI:∀ j j',I j j'→aS.bW j=Γ.bW j') (hO:∀ v,Old v→∀ u,aF Γ v u→aF aS v u) (hz:aS.iB=Γ.iB) {B B':aj} {b s:Nat}
  (h:yR I Old B B') (r:kg Γ w B' b s):kg aS w B b s:=by
 cases h with
 |cells l l' ro h=>
  obtain⟨cs,el,fz,h1,h2,h3⟩:=r
  refine⟨cs,el,fz,h1,h2,fun i v e=>?_⟩
  rw[PT.bf] at e
  obtain⟨v',e',q⟩:=h.get e
  obtain⟨u,e₂,q₂⟩:=h3 i v' (by rw[PT.bf];exact e')
  exact⟨u,e₂,q.rel hI hO hz q₂⟩
 |map es es' clk h=>
  obtain⟨h0,bh,h1,h2⟩:=r
  exact⟨h0,bh,h1,h.rel hI hO hz h2⟩
theorem yR.cB {I:Nat→Nat→Prop} {Old:Value→Prop} {B B':aj} (h:yR I Old B B'):B.cB↔B'.cB:=by cases h<;>exact Iff.rfl
theorem bL.down {Γ dD:bu} (hle:Γ.le dD):∀ {l:List (Value×Value×Nat)} {Bv u:List MapEntry},bL Γ l Bv→bL dD l u→bL Γ l u
 | _,_,_,.nil,.nil => .nil
 | _,_,_,.cons _ _ _ _ hk hv hb t,.cons _ _ _ _ hk' PD hb' t' => .cons _ _ _ _ (aF.down hle hk hk') (aF.down hle hv PD) hb' (bL.down hle t t')
theorem kg.down {Γ dD:bu} (hle:Γ.le dD) {w w₂:World} {B:aj} {b s:Nat} (h₀:kg Γ w B b s) (h:kg dD w₂ B b s):kg Γ w₂ B b s:=by
 cases B with
 |cells c ro=>
  obtain⟨Z5,Z6,Z7,_,_,Ef⟩:=h₀
  obtain⟨cs,el,fz,h1,h2,h3⟩:=h
  refine⟨cs,el,fz,h1,h2,fun i v e=>?_⟩
  obtain⟨Bv,_,Xb⟩:=Ef i v e
  obtain⟨u,e',q⟩:=h3 i v e
  exact⟨u,e',aF.down hle Xb q⟩
 |map es clk=>
  obtain⟨_,SN,_,P4⟩:=h₀
  obtain⟨h0,bh,h1,h2⟩:=h
  exact⟨h0,bh,h1,bL.down hle P4 h2⟩
 |iter m since seen stepped=>
  obtain⟨_,m₀,_,_,Ef⟩:=h₀
  obtain⟨h0,m',h1,h2,h3⟩:=h
  refine⟨h0,m',h1,h2,fun r hr=>?_⟩
  obtain⟨r₀,_,e₀⟩:=Ef r hr
  obtain⟨r',e',e⟩:=h3 r hr
  have:=hle.bW _ _ e₀
  rw[e] at this
  obtain rfl:r'=r₀:=by simpa using this
  exact⟨r',e',e₀⟩
 |loop st ig tm ps as bd=>
  obtain⟨_,agy,_,_,_,ht₀,_⟩:=h₀
  obtain⟨h0,L,h1,h2,h3,ht,h5⟩:=h
  exact⟨h0,L,h1,h2,h3,⟨ht.size,fun i=>aF.down hle (ht₀.get i) (ht.get i)⟩,h5⟩
 |deferred=>exact h
end Go.Am
