/-
  A part of the proof: contracts of inner functions.
-/
import Derived.Test.YtfhmopghjoeamaaGreatAmX3
set_option linter.unusedSimpArgs false
set_option linter.unusedVariables false
namespace Go.Am
def AP.note {α:Type}:AP α→HS→aW α
 | .pure a,s => .ok a s
 | .fail why,_ => .fail why
 | .get id k,s=>match s.heap.get id with
  |none => .fail "get"
  |some b=>(k b).note { s with rd:=id::s.rd }
 | .set id b k,s=>match s.heap.get id with
  |none => .fail "set"
  |some _=>k.note { s with heap:=s.heap.set id (some b),wr:=id::s.wr }
 | .kill id k,s=>match s.heap.get id with
  |none => .fail "kill"
  |some _=>k.note { s with heap:=s.heap.set id none,wr:=id::s.wr }
 | .new b k,s=>(k s.next).note { s with heap:=s.heap.set s.next (some b),next:=Nat.succ s.next }
theorem jr {id:Nat} {l l':List Nat} (hl:∀ i∈l,i∈l') {i:Nat} (hi:i∈cond true (ins id l) l):i∈id::l':=by
 simp only[cond_true,ins] at hi
 cases ha:l.any (Nat.beq id) with
 |true=>rw[ha] at hi;exact List.mem_cons_of_mem _ (hl i hi)
 |false=>
  rw[ha] at hi
  rcases List.mem_cons.1 hi with rfl |hi
  ·exact List.mem_cons_self
  ·exact List.mem_cons_of_mem _ (hl i hi)
theorem iR {α:Type} (lim:Nat):∀ (p:AP α) (s:HS) (a:α) (s':HS),p.note s = .ok a s'→∀ rd wr,(∀ i∈rd,i∈s.rd)→(∀ i∈wr,i∈s.wr)→
  ∃ rd' wr',p.run lim ⟨s.heap,s.next,rd,wr⟩ = .ok a ⟨s'.heap,s'.next,rd',wr'⟩∧(∀ i∈rd',i∈s'.rd)∧(∀ i∈wr',i∈s'.wr)
 | .pure a,s,b,s',e,rd,wr,h1,h2=>by
  simp only[AP.note,aW.ok.injEq] at e
  obtain⟨rfl,rfl⟩:=e
  exact⟨rd,wr,rfl,h1,h2⟩
 | .fail w,s,b,s',e,rd,wr,h1,h2=>by simp[AP.note] at e
 | .get id k,s,b,s',e,rd,wr,h1,h2=>by
  simp only[AP.note] at e
  cases hb:s.heap.get id with
  |none=>rw[hb] at e;simp at e
  |some B=>
   rw[hb] at e
   simp only at e
   have:=iR lim (k B) _ b s' e (cond (Nat.blt id lim) (ins id rd) rd) wr (fun i hi=>?_) h2
   ·obtain⟨rd',wr',q,q1,q2⟩:=this
    refine⟨rd',wr',?_,q1,q2⟩
    simp only[AP.run,hb]
    cases hl:Nat.blt id lim<;>simp only[hl,cond_true,cond_false] at q ⊢<;>exact q
   ·cases hl:Nat.blt id lim with
    |false=>rw[hl] at hi;exact List.mem_cons_of_mem _ (h1 i hi)
    |true=>
     rw[hl] at hi
     exact jr h1 hi
 | .set id c k,s,b,s',e,rd,wr,h1,h2=>by
  simp only[AP.note] at e
  cases hb:s.heap.get id with
  |none=>rw[hb] at e;simp at e
  |some B=>
   rw[hb] at e
   simp only at e
   have:=iR lim k _ b s' e rd (cond (Nat.blt id lim) (ins id wr) wr) h1 (fun i hi=>?_)
   ·obtain⟨rd',wr',q,q1,q2⟩:=this
    refine⟨rd',wr',?_,q1,q2⟩
    simp only[AP.run,hb]
    cases hl:Nat.blt id lim<;>simp only[hl,cond_true,cond_false] at q ⊢<;>exact q
   ·cases hl:Nat.blt id lim with
    |false=>rw[hl] at hi;exact List.mem_cons_of_mem _ (h2 i hi)
    |true=>
     rw[hl] at hi
     exact jr h2 hi
 | .kill id k,s,b,s',e,rd,wr,h1,h2=>by
  simp only[AP.note] at e
  cases hb:s.heap.get id with
  |none=>rw[hb] at e;simp at e
  |some B=>
   rw[hb] at e
   simp only at e
   have:=iR lim k _ b s' e rd (cond (Nat.blt id lim) (ins id wr) wr) h1 (fun i hi=>?_)
   ·obtain⟨rd',wr',q,q1,q2⟩:=this
    refine⟨rd',wr',?_,q1,q2⟩
    simp only[AP.run,hb]
    cases hl:Nat.blt id lim<;>simp only[hl,cond_true,cond_false] at q ⊢<;>exact q
   ·cases hl:Nat.blt id lim with
    |false=>rw[hl] at hi;exact List.mem_cons_of_mem _ (h2 i hi)
    |true=>
     rw[hl] at hi
     exact jr h2 hi
 | .new c k,s,b,s',e,rd,wr,h1,h2=>by
  simp only[AP.note] at e
  exact iR lim (k s.next) _ b s' e rd wr h1 h2
def NM (e:Prop) {α:Type} (F0 F:HS→aW α):Prop:=∀ h n rT ry a s,F0 ⟨h,n,rT,ry⟩ = .ok a s→∀ rd wr,∃ rd' wr',F ⟨h,n,rd,wr⟩ = .ok a ⟨s.heap,s.next,rd',wr'⟩∧(e→Sub rd rT→Sub rd' s.rd)∧(e→Sub wr ry→Sub wr' s.wr)
theorem NM.bF {e:Prop} {α β:Type} {F0 F:HS→aW α} {k0 k:α→HS→aW β} (hF:NM e F0 F) (hk:∀ a,NM e (k0 a) (k a)):NM e (fun s=>bF (F0 s) k0) (fun s=>bF (F s) k):=by
 intro h n rT ry b s q rd wr
 obtain⟨a,s₁,q1,q2⟩:=aX q
 obtain⟨rd',wr',u,u1,u2⟩:=hF h n rT ry a s₁ q1 rd wr
 obtain⟨rd2,wr2,v,v1,v2⟩:=hk a s₁.heap s₁.next s₁.rd s₁.wr b s q2 rd' wr'
 exact⟨rd2,wr2,by show Go.Am.bF _ _=_;rw[u,aM];exact v,fun c c1=>v1 c (u1 c c1),fun c c1=>v2 c (u2 c c1)⟩
theorem NM.ok {e:Prop} {α:Type} (a:α):NM e (fun s => .ok a s) (fun s => .ok a s):=fun h n rT ry b s q rd wr=>by
 simp only[aW.ok.injEq] at q
 obtain⟨rfl,rfl⟩:=q
 exact⟨rd,wr,rfl,fun _ c=>c,fun _ c=>c⟩
theorem NM.fail {e:Prop} {α:Type} (w:String) (F:HS→aW α):NM e (fun _=>(.fail w:aW α)) F:=fun h n rT ry b s q rd wr=>by simp at q
theorem tK {lim id:Nat} {l l':List Nat} (h:Sub l l'):Sub (cond (Nat.blt id lim) (ins id l) l) (cond (Nat.blt id lim) (ins id l') l'):=by
 cases Nat.blt id lim with
 |false=>exact h
 |true=>exact fun x hx=>ef.2 ((ef.1 hx).imp (fun c=>c) (h x))
theorem NM.ap {α:Type} (bM lim:Nat):∀ (p:AP α),NM (bM=lim) (fun s=>p.run bM s) (fun s=>p.run lim s)
 | .pure a=>fun h n rT ry b s q rd wr=>by
  simp only[AP.run,aW.ok.injEq] at q
  obtain⟨rfl,rfl⟩:=q
  exact⟨rd,wr,rfl,fun _ c=>c,fun _ c=>c⟩
 | .fail w=>fun h n rT ry b s q rd wr=>by simp[AP.run] at q
 | .get id k=>fun h n rT ry b s q rd wr=>by
  simp only[AP.run] at q ⊢
  cases hb:h.get id with
  |none=>rw[hb] at q;simp at q
  |some B=>
   rw[hb] at q
   simp only at q
   have e0:∀ l r w,(match Nat.blt id l with |true=>(⟨h,n,ins id r,w⟩:HS) |false=>⟨h,n,r,w⟩)=⟨h,n,cond (Nat.blt id l) (ins id r) r,w⟩:=fun l r w=>by cases Nat.blt id l<;>rfl
   have q':(k B).run bM ⟨h,n,cond (Nat.blt id bM) (ins id rT) rT,ry⟩ = .ok b s:=by
    cases hl:Nat.blt id bM<;>simp only[hl,cond_true,cond_false] at q ⊢<;>exact q
   obtain⟨rd',wr',u,u1,u2⟩:=NM.ap bM lim (k B) h n _ _ b s q' (cond (Nat.blt id lim) (ins id rd) rd) wr
   refine⟨rd',wr',?_,fun c c1=>u1 c (by subst c;exact tK c1),u2⟩
   cases hl:Nat.blt id lim<;>simp only[hl,cond_true,cond_false] at u ⊢<;>exact u
 | .set id B k=>fun h n rT ry b s q rd wr=>by
  simp only[AP.run] at q ⊢
  cases hb:h.get id with
  |none=>rw[hb] at q;simp at q
  |some B'=>
   rw[hb] at q
   simp only at q
   have q':k.run bM ⟨h.set id (some B),n,rT,cond (Nat.blt id bM) (ins id ry) ry⟩ = .ok b s:=by
    cases hl:Nat.blt id bM<;>simp only[hl,cond_true,cond_false] at q ⊢<;>exact q
   obtain⟨rd',wr',u,u1,u2⟩:=NM.ap bM lim k (h.set id (some B)) n _ _ b s q' rd (cond (Nat.blt id lim) (ins id wr) wr)
   refine⟨rd',wr',?_,u1,fun c c1=>u2 c (by subst c;exact tK c1)⟩
   cases hl:Nat.blt id lim<;>simp only[hl,cond_true,cond_false] at u ⊢<;>exact u
 | .kill id k=>fun h n rT ry b s q rd wr=>by
  simp only[AP.run] at q ⊢
  cases hb:h.get id with
  |none=>rw[hb] at q;simp at q
  |some B'=>
   rw[hb] at q
   simp only at q
   have q':k.run bM ⟨h.set id none,n,rT,cond (Nat.blt id bM) (ins id ry) ry⟩ = .ok b s:=by
    cases hl:Nat.blt id bM<;>simp only[hl,cond_true,cond_false] at q ⊢<;>exact q
   obtain⟨rd',wr',u,u1,u2⟩:=NM.ap bM lim k (h.set id none) n _ _ b s q' rd (cond (Nat.blt id lim) (ins id wr) wr)
   refine⟨rd',wr',?_,u1,fun c c1=>u2 c (by subst c;exact tK c1)⟩
   cases hl:Nat.blt id lim<;>simp only[hl,cond_true,cond_false] at u ⊢<;>exact u
 | .new B k=>fun h n rT ry b s q rd wr=>by
  simp only[AP.run] at q ⊢
  exact NM.ap bM lim (k n) (h.set n (some B)) (n+1) _ _ b s q rd wr
section
variable {P:Program} {O:Over} {bM lim:Nat}
def AX (bM lim:Nat) (ev:jd):Prop:=∀ ro c m,NM (bM=lim) (fun s=>ev ro bM c m s) (fun s=>ev ro lim c m s)
variable {ev:jd}
theorem lJ:∀ l,NM (bM=lim) (dX bM l) (dX lim l)
 | [] => .ok _
 |d::r=>(NM.ap bM lim (l5 d)).bF fun _=>lJ r
theorem jt (m:Tm):∀ l,NM (bM=lim) (bY P bM m l) (bY P lim m l)
 | [] => .ok _
 | .tmp t::r=>(jt m r).bF fun l => .ok (m.get t::l)
 | .cell a t::r=>(NM.ap bM lim (eu P t (m.get a))).bF fun v=>(jt m r).bF fun l => .ok (v::l)
theorem Ci (rs:List ResultVar) (x:bw×Tm):NM (bM=lim) (iz P bM rs x) (iz P lim rs x):=by
 unfold iz
 cases x.1 with
 |exit id=>exact .fail _ _
 |normal=>exact(lJ _).bF fun _=>(jt _ _).bF fun _ => .ok _
 |ret=>exact(lJ _).bF fun _=>(jt _ _).bF fun _ => .ok _
theorem tL (h:AX bM lim ev) (f:FuncId) (args:List Value):NM (bM=lim) (fG P ev bM f args) (fG P ev lim f args):=by
 unfold fG
 cases P.funcs[f]? with
 |none=>exact .fail _ _
 |some fn=>
  simp only
  cases fn.body with
  |none=>exact .fail _ _
  |some c=>exact(h _ _ _).bF fun _=>Ci _ _
theorem yP (h:AX bM lim ev) (f:FuncId) (args:List Value):NM (bM=lim) (ew P O ev bM f args) (ew P O ev lim f args):=by
 unfold ew
 cases O f args with
 |none=>exact tL h f args
 |some m=>exact NM.ap _ _ m
theorem Cj (h:AX bM lim ev) (l:Nat) (m:Tm) (as bd:Code):NM (bM=lim) (eD ev bM l m as bd) (eD ev lim l m as bd):=by
 unfold eD
 refine(h _ _ _).bF fun x=>?_
 cases x.1 with
 |normal=>exact(NM.ap _ _ _).bF fun _=>(h _ _ _).bF fun _=>NM.ap _ _ _
 |exit i=>exact .fail _ _
 |ret=>exact .fail _ _
theorem E9 (h:AX bM lim ev) (x:aE):NM (bM=lim) (eS P O ev bM x) (eS P O ev lim x):=by
 cases x with
 |value v=>exact .ok _
 |skip=>exact .ok _
 |enter f args=>exact yP h f args
 |round l m as bd=>exact Cj h l m as bd
theorem I5 (m:Tm) (d:Option Nat) (v:Value) {e:Prop}:NM e (iK m d v) (iK m d v):=by
 unfold iK
 cases m.put d v with
 |none=>exact .fail _ _
 |some m=>exact .ok _
theorem MZ (h:AX bM lim ev) (ops:List Oper) (o:Oper) (m:Tm):NM (bM=lim) (lV P O ev bM ops o m) (lV P O ev lim ops o m):=by
 unfold lV
 refine NM.bF ?_ fun v=>I5 m _ v
 cases bU ops m o with
 |false=>exact .ok _
 |true=>
  show NM _ (iJ P O ev bM m.eval o) (iJ P O ev lim m.eval o)
  unfold iJ
  cases o.op.operands.toList.all a_ with
  |false=>exact .fail _ _
  |true=>exact(NM.ap _ _ _).bF fun x=>E9 h x
theorem Cm (h:AX bM lim ev) (ops:List Oper):∀ (r:List Oper) (m:Tm),NM (bM=lim) (gU P O ev bM ops r m) (gU P O ev lim ops r m)
 | [],m => .ok _
 |o::r,m=>(MZ h ops o m).bF fun m=>Cm h ops r m
theorem rU {lim:Nat} {l a b:List Nat} (h:Sub a b):Sub (below lim l a) (below lim l b):=fun x hx=>(iO l b x).2 (((iO l a x).1 hx).imp (fun c=>c) (h x))
theorem ve {lim:Nat}:∀ (fs:List bI) (s:HS),(aL lim fs s).heap=s.heap∧(aL lim fs s).next=s.next
 | [],s=>⟨rfl,rfl⟩
 |f::fs,s=>ve fs _
theorem kL {lim:Nat}:∀ (fs:List bI) (s s':HS),(Sub s.rd s'.rd→Sub (aL lim fs s).rd (aL lim fs s').rd)∧(Sub s.wr s'.wr→Sub (aL lim fs s).wr (aL lim fs s').wr)
 | [],s,s'=>⟨fun h=>h,fun h=>h⟩
 |f::fs,s,s'=>⟨fun h=>(kL fs _ _).1 (rU h),fun h=>(kL fs _ _).2 (rU h)⟩
theorem E_ (ops:List Oper) (m:Tm):NM (bM=lim) (eE P O ev bM ops m) (eE P O ev lim ops m):=by
 intro H n rT ry a s e rd wr
 unfold eE at e ⊢
 cases hd:gK ops (aP (aN [] ops) ops.length) with
 |false=>rw[hd] at e;simp at e
 |true=>
  rw[hd] at e
  simp only[cond_true] at e ⊢
  obtain⟨x,s₁,e₁,e₂⟩:=aX e
  have yL:gV P O ev ops ops m H n = .ok x s₁:=e₁
  cases hf:cQ x.2 (aP (aN [] ops) ops.length) with
  |false=>rw[hf] at e₂;simp at e₂
  |true=>
   rw[hf] at e₂
   simp only[cond_true,aW.ok.injEq] at e₂
   obtain⟨rfl,e₂⟩:=e₂
   rw[show gV P O ev ops ops m (⟨H,n,rd,wr⟩:HS).heap (⟨H,n,rd,wr⟩:HS).next = .ok x s₁ from yL,aM]
   simp only[hf,cond_true]
   have hh:∀ l (r w:List Nat),(cond (Nat.beq l 0) (⟨s₁.heap,s₁.next,r,w⟩:HS) (aL l x.2 ⟨s₁.heap,s₁.next,r,w⟩)).heap=s₁.heap∧(cond (Nat.beq l 0) (⟨s₁.heap,s₁.next,r,w⟩:HS) (aL l x.2 ⟨s₁.heap,s₁.next,r,w⟩)).next=s₁.next:=fun l r w=>by
    cases Nat.beq l 0 with
    |true=>exact⟨rfl,rfl⟩
    |false=>exact ve x.2 ⟨s₁.heap,s₁.next,r,w⟩
   have h1:=hh lim rd wr
   have h0:=hh bM rT ry
   rw[e₂] at h0
   have eta:∀ X:HS,X.heap=s₁.heap→X.next=s₁.next→X=⟨s.heap,s.next,X.rd,X.wr⟩:=fun X a b=>by rw[h0.1,h0.2,←a,←b]
   refine⟨_,_,congrArg (aW.ok x.1) (show _=(⟨s.heap,s.next,(cond (Nat.beq lim 0) (⟨s₁.heap,s₁.next,rd,wr⟩:HS) (aL lim x.2 ⟨s₁.heap,s₁.next,rd,wr⟩)).rd,(cond (Nat.beq lim 0) (⟨s₁.heap,s₁.next,rd,wr⟩:HS) (aL lim x.2 ⟨s₁.heap,s₁.next,rd,wr⟩)).wr⟩:HS) from ?_),fun c c1=>?_,fun c c1=>?_⟩
   ·exact eta _ h1.1 h1.2
   ·subst c
    rw[←e₂]
    cases Nat.beq bM 0 with
    |true=>exact c1
    |false=>exact(kL x.2 ⟨s₁.heap,s₁.next,rd,wr⟩ ⟨s₁.heap,s₁.next,rT,ry⟩).1 c1
   ·subst c
    rw[←e₂]
    cases Nat.beq bM 0 with
    |true=>exact c1
    |false=>exact(kL x.2 ⟨s₁.heap,s₁.next,rd,wr⟩ ⟨s₁.heap,s₁.next,rT,ry⟩).2 c1
theorem Cn (h:AX bM lim ev) (ro:Option Nat) (g:Operand) (ps:List Tmp) (as bd:Code) (m:Tm):NM (bM=lim) (eF P O ev ro bM g ps as bd m) (eF P O ev ro lim g ps as bd m):=by
 unfold eF
 cases a_ g with
 |false=>exact .fail _ _
 |true=>exact(NM.ap _ _ _).bF fun ld=>(NM.ap _ _ _).bF fun fa=>(yP h _ _).bF fun _=>(NM.ap _ _ _).bF fun _ => .ok _
theorem Fa (h:AX bM lim ev):AX bM lim (bh P O ev):=by
 intro ro c m
 cases c with
 |skip=>exact .ok _
 |label l=>exact .ok _
 |region id ops draw=>
  simp only[bh]
  refine NM.bF ?_ fun _ => .ok _
  cases draw with
  |true=>exact E_ _ _
  |false=>exact Cm h _ _ _
 |seq a b=>
  simp only[bh]
  refine(h _ _ _).bF fun x=>?_
  cases x.1 with
  |normal=>exact h _ _ _
  |exit i=>exact .ok _
  |ret=>exact .ok _
 |cond c a b=>
  simp only[bh]
  cases a_ c with
  |false=>exact .fail _ _
  |true=>
   simp only[cond_true]
   generalize m.eval c=z
   cases z with
   |bool t=>cases t<;>exact h _ _ _
   | _=>exact .fail _ _
 |block id c=>
  simp only[bh]
  refine(h _ _ _).bF fun x=>?_
  cases x.1<;>exact .ok _
 |loop c=>
  simp only[bh]
  refine(h _ _ _).bF fun x=>?_
  cases x.1 with
  |normal=>exact h _ _ _
  |exit i=>exact .ok _
  |ret=>exact .ok _
 |exit id=>exact .ok _
 |scope c=>exact h _ _ _
 |ret=>exact .ok _
 |rangeFunc g ps as bd=>exact Cn h _ _ _ _ _ _
 |goto l=>exact .fail _ _
 |refuse w=>exact .fail _ _
theorem xI:∀ k,AX bM lim (jL P O k)
 |0=>fun ro c m => .fail _ _
 |k+1=>Fa (xI k)
end
section
variable (P:Program) (O:Over)
def jX (ev:jd) (lo:Nat) (x:aE) (s:HS):aW Value:=
 match x with
 | .value v => .ok v s
 | .skip => .ok gI s
 | .enter f args=>match O f args with
  |some p=>p.note s
  |none=>fG P ev lo f args s
 | .round .. => .fail "a round within a region that draws"
def I7 (ev:jd) (lo:Nat) (ops:List Oper) (o:Oper) (m:Tm) (s:HS):aW Tm:=
 bF (cond (bU ops m o) (cond (o.op.operands.toList.all a_) (bF ((iE P m.eval o).note s) (jX P O ev lo)) (.fail "")) (.ok gI s)) fun v s=>iK m o.dst v s
def nL (ev:jd) (ops:List Oper):List Oper→Tm→PT aj→Nat→List bI→aW (Tm×List bI)
 | [],m,h,n,fs => .ok (m,fs) (S0 h n)
 |o::r,m,h,n,fs=>bF (I7 P O ev n ops o m ⟨h,n,[],[]⟩) fun m s=>nL ev ops r m s.heap s.next (⟨n,s.next,s.rd,s.wr⟩::fs)
variable {P} {O}
theorem I8 {ev:jd} {lim:Nat} (dm:AX lim lim ev) {ops:List Oper} {o:Oper} {m m':Tm} {h:PT aj} {n:Nat} {s':HS} (e:I7 P O ev lim ops o m ⟨h,n,[],[]⟩ = .ok m' s'):
  ∃ rd wr,lV P O ev lim ops o m ⟨h,n,[],[]⟩ = .ok m' ⟨s'.heap,s'.next,rd,wr⟩∧(∀ i∈rd,i∈s'.rd)∧(∀ i∈wr,i∈s'.wr):=by
 unfold I7 at e
 obtain⟨v,s₁,e₁,e₂⟩:=aX e
 have put:∀ rd wr,∃ m'',iK m o.dst v ⟨s₁.heap,s₁.next,rd,wr⟩ = .ok m'' ⟨s₁.heap,s₁.next,rd,wr⟩∧m''=m'∧s₁=s':=by
  intro rd wr
  unfold iK at e₂ ⊢
  cases hp:m.put o.dst v with
  |none=>rw[hp] at e₂;simp at e₂
  |some m₁=>rw[hp] at e₂;simp only[aW.ok.injEq] at e₂;exact⟨m₁,rfl,e₂.1,e₂.2⟩
 unfold lV
 cases hw:bU ops m o with
 |false=>
  rw[hw] at e₁
  simp only[cond_false,aW.ok.injEq] at e₁
  obtain⟨rfl,rfl⟩:=e₁
  obtain⟨_,q,rfl,rfl⟩:=put [] []
  exact⟨[],[],by simp only[cond_false,aM];exact q,fun i hi=>hi,fun i hi=>hi⟩
 |true=>
  rw[hw] at e₁
  simp only[cond_true] at e₁
  cases hf:o.op.operands.toList.all a_ with
  |false=>rw[hf] at e₁;simp at e₁
  |true=>
   rw[hf] at e₁
   simp only[cond_true] at e₁
   obtain⟨x,s₂,e₃,e₄⟩:=aX e₁
   obtain⟨rd,wr,q,q1,q2⟩:=iR lim _ _ _ _ e₃ [] [] (fun i hi=>by simp at hi) (fun i hi=>by simp at hi)
   have next:∃ rd' wr',eS P O ev lim x ⟨s₂.heap,s₂.next,rd,wr⟩ = .ok v ⟨s₁.heap,s₁.next,rd',wr'⟩∧(∀ i∈rd',i∈s₁.rd)∧(∀ i∈wr',i∈s₁.wr):=by
    cases x with
    |value u=>simp only[jX,aW.ok.injEq] at e₄;obtain⟨rfl,rfl⟩:=e₄;exact⟨rd,wr,rfl,q1,q2⟩
    |skip=>simp only[jX,aW.ok.injEq] at e₄;obtain⟨rfl,rfl⟩:=e₄;exact⟨rd,wr,rfl,q1,q2⟩
    |enter f args=>
     simp only[jX] at e₄
     cases hO:O f args with
     |none=>
      rw[hO] at e₄
      obtain⟨rd',wr',u,u1,u2⟩:=tL dm f args s₂.heap s₂.next s₂.rd s₂.wr v s₁ e₄ rd wr
      exact⟨rd',wr',by simp only[eS,ew,hO];exact u,u1 rfl q1,u2 rfl q2⟩
     |some p=>
      rw[hO] at e₄
      obtain⟨rd',wr',u,u1,u2⟩:=iR lim _ _ _ _ e₄ rd wr q1 q2
      exact⟨rd',wr',by simp only[eS,ew,hO];exact u,u1,u2⟩
    |round l m as bd=>simp[jX] at e₄
   obtain⟨rd',wr',u,u1,u2⟩:=next
   obtain⟨_,q3,rfl,rfl⟩:=put rd' wr'
   refine⟨rd',wr',?_,u1,u2⟩
   simp only[cond_true,iJ,hf,q,aM,u]
   exact q3
structure o7 (f g:bI):Prop where
 lo:f.lo=g.lo
 hi:f.hi=g.hi
 rd:∀ i∈f.rd,i∈g.rd
 wr:∀ i∈f.wr,i∈g.wr
inductive gN:List bI→List bI→Prop
 |nil:gN [] []
 |cons (f g:bI) (l l':List bI) (h:o7 f g) (t:gN l l'):gN (f::l) (g::l')
theorem gN.get:∀ {l l':List bI},gN l l'→∀ i:Nat,(l[i]? = none∧l'[i]? = none)∨∃ f g,l[i]? = some f∧l'[i]? = some g∧o7 f g
 | _,_,.nil,i => .inl ⟨rfl,rfl⟩
 | _,_,.cons f g l l' h t,0 => .inr ⟨f,g,rfl,rfl,h⟩
 | _,_,.cons f g l l' h t,i+1=>by simpa using t.get i
theorem nM {a b a' b':List Nat} (h1:∀ i∈a,i∈a') (h2:∀ i∈b,i∈b') (h:meets a' b'=false):meets a b=false:=by
 cases hm:meets a b with
 |false=>rfl
 |true=>
  simp only[meets,List.any_eq_true] at hm
  obtain⟨x,hx,y,hy,hxy⟩:=hm
  have:meets a' b'=true:=by
   simp only[meets,List.any_eq_true]
   exact⟨x,h1 x hx,y,h2 y hy,hxy⟩
  rw[h] at this
  exact absurd this (by decide)
theorem jY {a a':List Nat} {lo hi:Nat} (h1:∀ i∈a,i∈a') (h:bD a' lo hi=false):bD a lo hi=false:=by
 cases hm:bD a lo hi with
 |false=>rfl
 |true=>
  simp only[bD,List.any_eq_true] at hm
  obtain⟨x,hx,hxy⟩:=hm
  have:bD a' lo hi=true:=by
   simp only[bD,List.any_eq_true]
   exact⟨x,h1 x hx,hxy⟩
  rw[h] at this
  exact absurd this (by decide)
theorem zY {f g f' g':bI} (h1:o7 f f') (h2:o7 g g') (h:gX f' g'=false):gX f g=false:=by
 unfold gX at*
 simp only[Bool.or_eq_false_iff] at h ⊢
 obtain⟨⟨⟨⟨a,b⟩,c⟩,d⟩,e⟩:=h
 rw[h1.lo,h1.hi]
 exact⟨⟨⟨⟨nM h1.wr h2.wr a,nM h1.wr h2.rd b⟩,nM h1.rd h2.wr c⟩,jY h2.rd d⟩,jY h2.wr e⟩
theorem vf {l l':List bI} (h:gN l l') {L:List (Nat×Nat)} (k:cQ l' L=true):cQ l L=true:=by
 unfold cQ at*
 rw[List.all_eq_true] at k ⊢
 intro p hp
 have:=k p hp
 rcases h.get p.1 with ⟨a,b⟩ | ⟨f,g,a,b,c⟩
 ·simp[a,b] at this
 ·rcases h.get p.2 with ⟨a',b'⟩ | ⟨f',g',a',b',c'⟩
  ·simp[a,b,a',b'] at this
  ·simp only[a,b,a',b'] at this ⊢
   simp only[Bool.not_eq_true'] at this ⊢
   exact zY c c' this
theorem vg {ev:jd} (dm:∀ lim,AX lim lim ev) {ops:List Oper}:∀ (r:List Oper) {m m':Tm} {h:PT aj} {n:Nat} {fs fs':List bI} {s':HS},nL P O ev ops r m h n fs = .ok (m',fs') s'→
  ∃ F G,gV P O ev ops r m h n = .ok (m',F) s'∧fs'=G.reverse++fs∧gN F G∧s'=S0 s'.heap s'.next
 | [],m,m',h,n,fs,fs',s',e=>by
  simp only[nL,aW.ok.injEq,Prod.mk.injEq] at e
  obtain⟨⟨rfl,rfl⟩,rfl⟩:=e
  exact⟨[],[],rfl,rfl,.nil,rfl⟩
 |o::r,m,m',h,n,fs,fs',s',e=>by
  simp only[nL] at e
  obtain⟨m₁,s₁,e₁,e₂⟩:=aX e
  obtain⟨rd,wr,q,q1,q2⟩:=I8 (dm n) e₁
  obtain⟨F,G,u,rfl,u1,u2⟩:=vg dm r e₂
  refine⟨⟨n,s₁.next,rd,wr⟩::F,⟨n,s₁.next,s₁.rd,s₁.wr⟩::G,?_,by simp,.cons _ _ _ _ ⟨rfl,rfl,q1,q2⟩ u1,u2⟩
  simp only[gV,q,aM,u]
end
section rules
variable {z:Zx} {K:List KF} {m:Tm} {h:PT aj} {n:Nat}
def Co (z:Zx) (L:List (Nat×Nat)) (ops r:List Oper) (K:List KF) (m:Tm) (h:PT aj) (n:Nat) (fs:List bI):Prop:=
 m.n=z.N∧∃ k m' fs' h' n',nL z.P z.O (jL z.P z.O k) ops r m h n fs = .ok (m',fs') (S0 h' n')∧cQ fs'.reverse L=true∧Rs z K .normal m' h' n'
def jZ (z:Zx) (L:List (Nat×Nat)) (p:AP aE) (d:Option Nat) (ops r:List Oper) (K:List KF) (m:Tm) (h:PT aj) (n lo:Nat) (rd wr:List Nat) (fs:List bI):Prop:=
 m.n=z.N∧∃ k m' fs' h' n',bF (p.note ⟨h,n,rd,wr⟩) (fun x s=>bF (jX z.P z.O (jL z.P z.O k) lo x s) fun v s=>bF (iK m d v s) fun m s=>nL z.P z.O (jL z.P z.O k) ops r m s.heap s.next (⟨lo,s.next,s.rd,s.wr⟩::fs)) = .ok (m',fs') (S0 h' n')∧
  cQ fs'.reverse L=true∧Rs z K .normal m' h' n'
theorem aG {id:Nat} {ops:Array Oper} {L:List (Nat×Nat)} (hL:aP (aN [] ops.toList) ops.toList.length=L) (hd:gK ops.toList L=true) (e:Co z L ops.toList ops.toList K m h n []):
  ez z (.region id ops true) K m h n:=by
 obtain⟨hm,k,m',fs',h',n',e,hf,r⟩:=e
 refine⟨hm,k+1,(.normal,m'),h',n',?_,r⟩
 obtain⟨F,G,q,rfl,q1,_⟩:=vg (fun lim=>xI k) _ e
 rw[bW]
 simp only[bh,cond_true]
 have:eE z.P z.O (jL z.P z.O k) 0 ops.toList m (S0 h n) = .ok m' (S0 h' n'):=by
  unfold eE
  simp only[hL,hd,cond_true]
  rw[show (S0 h n).heap=h from rfl,show (S0 h n).next=n from rfl,q]
  simp only[aM]
  rw[vf q1 (by simpa using hf)]
  rfl
 rw[this]
 rfl
theorem Fb {L:List (Nat×Nat)} {ops:List Oper} {fs:List bI}:Co z L ops [] K m h n fs↔cQ fs.reverse L=true∧Rs z K .normal m h n:=by
 constructor
 ·rintro ⟨hm,k,m',fs',h',n',e,hf,r⟩
  simp only[nL,aW.ok.injEq,Prod.mk.injEq,S0,HS.mk.injEq] at e
  obtain⟨⟨rfl,rfl⟩,rfl,rfl,_⟩:=e
  exact⟨hf,r⟩
 ·rintro ⟨hf,r⟩
  exact⟨tF r,0,m,fs,h,n,rfl,hf,r⟩
def iG (z:Zx) (L:List (Nat×Nat)) (w:Bool) (o:Oper) (ops r:List Oper) (K:List KF) (m:Tm) (h:PT aj) (n:Nat) (fs:List bI):Prop:=
 cond w (o.op.operands.toList.all a_=true∧jZ z L (iE z.P m.eval o) o.dst ops r K m h n n [] [] fs) (jZ z L (.pure .skip) o.dst ops r K m h n n [] [] fs)
theorem Cp {L:List (Nat×Nat)} {o:Oper} {ops r:List Oper} {fs:List bI}:Co z L ops (o::r) K m h n fs↔iG z L (bU ops m o) o ops r K m h n fs:=by
 unfold iG
 cases hw:bU ops m o with
 |false=>
  simp only[cond_false]
  refine and_congr_right fun hm=>?_
  simp only[nL,I7,hw,cond_false,AP.note,aM,jX]
 |true=>
  simp only[cond_true]
  constructor
  ·rintro ⟨hm,k,m',fs',h',n',e,r⟩
   simp only[nL,I7,hw,cond_true] at e
   cases hf:o.op.operands.toList.all a_ with
   |false=>rw[hf] at e;simp[bF] at e
   |true=>
    rw[hf] at e
    simp only[cond_true,gq] at e
    exact⟨rfl,hm,k,m',fs',h',n',e,r⟩
  ·rintro ⟨hf,hm,k,m',fs',h',n',e,r⟩
   refine⟨hm,k,m',fs',h',n',?_,r⟩
   simp only[nL,I7,hw,cond_true,hf,gq]
   exact e
variable {L:List (Nat×Nat)} {d:Option Nat} {ops r:List Oper} {lo:Nat} {rd wr:List Nat} {fs:List bI}
theorem Cq {o:Oper}:iG z L true o ops r K m h n fs↔o.op.operands.toList.all a_=true∧jZ z L (iE z.P m.eval o) o.dst ops r K m h n n [] [] fs:=Iff.rfl
theorem zZ {o:Oper}:iG z L false o ops r K m h n fs↔jZ z L (.pure .skip) o.dst ops r K m h n n [] [] fs:=Iff.rfl
theorem rV {i:Nat} {v:Value}:jZ z L (.pure (.value v)) (some i) ops r K m h n lo rd wr fs↔i<z.N∧Co z L ops r K (up m i v) h n (⟨lo,n,rd,wr⟩::fs):=by
 unfold jZ Co
 simp only[AP.note,aM,jX,iK,Tm.put,IZ]
 constructor
 ·rintro ⟨hm,k,m',fs',h',n',e,q⟩
  cases hb:Nat.blt i m.n with
  |false=>rw[hb] at e;simp[bF] at e
  |true=>
   rw[hb] at e
   have:=Nat.le_of_ble_eq_true hb
   exact⟨by omega,hm,k,m',fs',h',n',e,q⟩
 ·rintro ⟨hi,hm,k,m',fs',h',n',e,q⟩
  have hb:Nat.blt i m.n=true:=Nat.ble_eq_true_of_le (by omega)
  exact⟨hm,k,m',fs',h',n',by rw[hb];exact e,q⟩
theorem xJ {v:Value}:jZ z L (.pure (.value v)) none ops r K m h n lo rd wr fs↔Co z L ops r K m h n (⟨lo,n,rd,wr⟩::fs):=Iff.rfl
theorem Cr {i:Nat}:jZ z L (.pure .skip) (some i) ops r K m h n lo rd wr fs↔i<z.N∧Co z L ops r K (up m i gI) h n (⟨lo,n,rd,wr⟩::fs):=rV (v:=gI)
theorem z6:jZ z L (.pure .skip) none ops r K m h n lo rd wr fs↔Co z L ops r K m h n (⟨lo,n,rd,wr⟩::fs):=Iff.rfl
theorem Ct {w:String}:jZ z L (.fail w) d ops r K m h n lo rd wr fs↔False:=by
 constructor
 ·rintro ⟨_,k,m',fs',h',n',e,_⟩;simp[AP.note,bF] at e
 ·exact False.elim
def Cu (z:Zx) (L:List (Nat×Nat)) (b:Option aj) (f:aj→AP aE) (d:Option Nat) (ops r:List Oper) (K:List KF) (m:Tm) (h:PT aj) (n lo:Nat) (rd wr:List Nat) (fs:List bI):Prop:=
 match b with
 |some b=>jZ z L (f b) d ops r K m h n lo rd wr fs
 |none=>False
theorem Fc {id:Nat} {f:aj→AP aE}:jZ z L (.get id f) d ops r K m h n lo rd wr fs↔Cu z L (h.get id) f d ops r K m h n lo (id::rd) wr fs:=by
 unfold Cu jZ
 simp only[AP.note]
 cases hb:h.get id with
 |none=>simp[bF]
 |some b=>exact Iff.rfl
theorem z7 {b:aj} {f:aj→AP aE}:Cu z L (some b) f d ops r K m h n lo rd wr fs↔jZ z L (f b) d ops r K m h n lo rd wr fs:=Iff.rfl
def xK (z:Zx) (L:List (Nat×Nat)) (o:Option aj) (id:Nat) (b:Option aj) (p:AP aE) (d:Option Nat) (ops r:List Oper) (K:List KF) (m:Tm) (h:PT aj) (n lo:Nat) (rd wr:List Nat) (fs:List bI):Prop:=
 match o with
 |some _=>jZ z L p d ops r K m (h.set id b) n lo rd wr fs
 |none=>False
theorem Fe {id:Nat} {b:aj} {p:AP aE}:jZ z L (.set id b p) d ops r K m h n lo rd wr fs↔xK z L (h.get id) id (some b) p d ops r K m h n lo rd (id::wr) fs:=by
 unfold xK jZ
 simp only[AP.note]
 cases hb:h.get id with
 |none=>simp[bF]
 |some c=>exact Iff.rfl
theorem Cv {id:Nat} {p:AP aE}:jZ z L (.kill id p) d ops r K m h n lo rd wr fs↔xK z L (h.get id) id none p d ops r K m h n lo rd (id::wr) fs:=by
 unfold xK jZ
 simp only[AP.note]
 cases hb:h.get id with
 |none=>simp[bF]
 |some c=>exact Iff.rfl
theorem z8 {c:aj} {id:Nat} {b:Option aj} {p:AP aE}:xK z L (some c) id b p d ops r K m h n lo rd wr fs↔jZ z L p d ops r K m (h.set id b) n lo rd wr fs:=Iff.rfl
theorem Ff {b:aj} {f:Nat→AP aE}:jZ z L (.new b f) d ops r K m h n lo rd wr fs↔jZ z L (f n) d ops r K m (h.set n (some b)) (n+1) lo rd wr fs:=Iff.rfl
theorem gu {α β:Type}:∀ (p:AP α) (f:α→AP β) (s:HS),(p.bind f).note s=bF (p.note s) fun a s=>(f a).note s
 | .pure a,f,s=>rfl
 | .fail w,f,s=>rfl
 | .get id k,f,s=>by
  simp only[AP.bind,AP.note]
  cases s.heap.get id with
  |none=>rfl
  |some b=>exact gu (k b) f _
 | .set id b k,f,s=>by
  simp only[AP.bind,AP.note]
  cases s.heap.get id with
  |none=>rfl
  |some _=>exact gu k f _
 | .kill id k,f,s=>by
  simp only[AP.bind,AP.note]
  cases s.heap.get id with
  |none=>rfl
  |some _=>exact gu k f _
 | .new b k,f,s=>by
  simp only[AP.bind,AP.note]
  exact gu (k s.next) f _
def z_ (z:Zx) (L:List (Nat×Nat)) (s:Option (AP Value)) (f:FuncId) (args:List Value) (d:Option Nat) (ops r:List Oper) (K:List KF) (m:Tm) (h:PT aj) (n lo:Nat) (rd wr:List Nat) (fs:List bI):Prop:=
 match s with
 |some p=>jZ z L (p.bind fun v => .pure (.value v)) d ops r K m h n lo rd wr fs
 |none=>jZ z L (.pure (.enter f args)) d ops r K m h n lo rd wr fs
theorem Aa {f:FuncId} {args:List Value}:jZ z L (.pure (.enter f args)) d ops r K m h n lo rd wr fs↔z_ z L (z.O f args) f args d ops r K m h n lo rd wr fs:=by
 unfold z_
 cases hO:z.O f args with
 |none=>exact Iff.rfl
 |some p=>simp only[jZ,gu,gq,AP.note,aM,jX,hO]
theorem Ab {p:AP Value} {f:FuncId} {args:List Value}:z_ z L (some p) f args d ops r K m h n lo rd wr fs↔jZ z L (p.bind fun v => .pure (.value v)) d ops r K m h n lo rd wr fs:=Iff.rfl
theorem rX {P:Program} {O:Over} {ev ev':jd} (hle:qm ev ev') {ops:List Oper}:∀ (r:List Oper) {m:Tm} {h:PT aj} {n:Nat} {fs:List bI} {x:Tm×List bI} {s':HS},nL P O ev ops r m h n fs = .ok x s'→nL P O ev' ops r m h n fs = .ok x s'
 | [],_,_,_,_,_,_,e=>e
 |o::r,m,h,n,fs,x,s',e=>by
  unfold nL at e ⊢
  refine bC (fun a s q=>?_) (fun a s _ b s' q=>rX hle r q) e
  unfold I7 at q ⊢
  refine bC (fun a s q=>?_) (fun _ _ _ _ _ q=>q) q
  cases hw:bU ops m o with
  |false=>rw[hw] at q;exact q
  |true=>
   rw[hw] at q
   simp only[cond_true] at q ⊢
   cases hf:o.op.operands.toList.all a_ with
   |false=>rw[hf] at q;simp at q
   |true=>
    rw[hf] at q
    simp only[cond_true] at q ⊢
    refine bC (fun _ _ q=>q) (fun a s _ b s' q=>?_) q
    cases a with
    |value v=>exact q
    |skip=>exact q
    |round l m as bd=>exact q
    |enter f args=>
     simp only[jX] at q ⊢
     cases hO:O f args with
     |none=>rw[hO] at q;exact kK hle q
     |some p=>rw[hO] at q;exact q
theorem Cw {f:FuncId} {args:List Value} {k:Nat} {v:Value} {h':PT aj} {n':Nat} (hm:m.n=z.N) (hO:z.O f args=none) (e:fG z.P (jL z.P z.O k) 0 f args (S0 h n) = .ok v (S0 h' n')) (hk:∀ rd' wr',jZ z L (.pure (.value v)) d ops r K m h' n' lo rd' wr' fs):
  jZ z L (.pure (.enter f args)) d ops r K m h n lo rd wr fs:=by
 obtain⟨rd',wr',u,-,-⟩:=tL (lim:=lo) (xI k) f args h n [] [] v (S0 h' n') e rd wr
 obtain⟨_,k2,m',fs',h2,n2,e2,q⟩:=hk rd' wr'
 refine⟨hm,max k k2,m',fs',h2,n2,?_,q⟩
 simp only[AP.note,aM,jX,hO] at e2 ⊢
 rw[kK (fI (Nat.le_max_left k k2)) u,aM]
 exact bC (fun _ _ q=>q) (fun a s _ b s' q=>rX (fI (Nat.le_max_right k k2)) r q) e2
end rules
end Go.Am
set_option linter.unusedSimpArgs false
set_option linter.unusedVariables false
namespace Go.Am
open Go.RowKit
def cT (P:Program) (O:Over) (f:FuncId) (args:List Value) (h:PT aj) (n:Nat) (R:Value→PT aj→Nat→Prop):Prop:=
 ∃ k v h' n',fG P (jL P O k) 0 f args (S0 h n) = .ok v (S0 h' n')∧R v h' n'
def Fg (P:Program) (t:TypeId) (x:Value) (h:PT aj):Option Value:=match (eu P t x).run 0 (S0 h 0) with
 | .ok v _=>some v
 | .fail _=>none
def iT (P:Program) (m:Tm) (h:PT aj):List ResultVar→Option (List Value)
 | []=>some []
 | .tmp t::r=>match iT P m h r with
  |some l=>some (m.get t::l)
  |none=>none
 | .cell a t::r=>match Fg P t (m.get a) h with
  |some v=>match iT P m h r with
   |some l=>some (v::l)
   |none=>none
  |none=>none
theorem Cx {P:Program} {t:TypeId} {x:Value} {h:PT aj} {v:Value} (n:Nat) (e:Fg P t x h=some v):(eu P t x).run 0 (S0 h n) = .ok v (S0 h n):=by
 have key:∀ n,(eu P t x).run 0 (S0 h n)=match Fg P t x h with |some v => .ok v (S0 h n) |none=>(eu P t x).run 0 (S0 h n):=by
  intro n
  unfold Fg eu
  split
  ·rename_i a i d _ _
   simp only[AP.run,show ∀ m,(S0 h m).heap=h from fun _=>rfl]
   cases h.get a.block with
   |none=>rfl
   |some b=>
    simp only[show Nat.blt a.block 0=false from rfl,cond_false]
    cases b<;>first |rfl |skip
    rename_i c ro
    cases isAgg d with
    |false=>simp only[cond_false];cases c.get a.off<;>rfl
    |true=>simp only[cond_true];cases aQ c a.off i.size<;>rfl
  ·rfl
 rw[key n,e]
theorem o8 {P:Program} {m:Tm} {h:PT aj} {n:Nat}:∀ {rs:List ResultVar} {l:List Value},iT P m h rs=some l→bY P 0 m rs (S0 h n) = .ok l (S0 h n)
 | [],l,e=>by simp only[iT,Option.some.injEq] at e;subst e;rfl
 | .tmp t::r,l,e=>by
  simp only[iT] at e
  cases hr:iT P m h r with
  |none=>rw[hr] at e;simp at e
  |some l'=>
   rw[hr] at e
   simp only[Option.some.injEq] at e
   subst e
   show bF (bY P 0 m r (S0 h n)) _=_
   rw[o8 hr];rfl
 | .cell a t::r,l,e=>by
  simp only[iT] at e
  cases hv:Fg P t (m.get a) h with
  |none=>rw[hv] at e;simp at e
  |some v=>
   rw[hv] at e
   cases hr:iT P m h r with
   |none=>rw[hr] at e;simp at e
   |some l'=>
    rw[hr] at e
    simp only[Option.some.injEq] at e
    subst e
    show bF ((eu P t (m.get a)).run 0 (S0 h n)) _=_
    rw[Cx n hv]
    show bF (bY P 0 m r (S0 h n)) _=_
    rw[o8 hr];rfl
def Fin (P:Program) (rs:List ResultVar) (R:Value→PT aj→Nat→Prop) (e:bw) (m:Tm) (h:PT aj) (n:Nat):Prop:=
 (match e with | .exit _=>False | _=>True)∧m.fO=[]∧∃ l,iT P m h rs=some l∧R (oneOf l) h n
theorem I9 {P:Program} {O:Over} {f:FuncId} {fn:Func} {c:Code} {args:List Value} {h:PT aj} {n:Nat} {R:Value→PT aj→Nat→Prop} (hf:P.funcs[f]? = some fn) (hb:fn.body=some c)
  (H:∀ z:Zx,z.P=P→z.O=O→z.ro=none→z.N=args.length+(fn.ntmps-args.length)→z.Q=Fin P fn.results.toList R→ez z c [] ⟨args.length+(fn.ntmps-args.length),PT.ofList .leaf 0 args,[]⟩ h n):cT P O f args h n R:=by
 obtain⟨_,k,x,h',n',e,hx⟩:=H ⟨P,O,none,args.length+(fn.ntmps-args.length),Fin P fn.results.toList R⟩ rfl rfl rfl rfl rfl
 obtain⟨_,hx,hd,l,hl,hR⟩:_∧Fin P fn.results.toList R x.1 x.2 h' n':=hx
 refine⟨k,oneOf l,h',n',?_,hR⟩
 simp only[fG,hf,hb]
 rw[e,aM]
 unfold iz
 rw[hd]
 cases hx1:x.1 with
 |exit i=>rw[hx1] at hx;exact hx.elim
 |normal=>simp only[dX,aM];rw[o8 hl];rfl
 |ret=>simp only[dX,aM];rw[o8 hl];rfl
mutual
inductive eN (I:Nat→Nat→Prop) (Old:Value→Prop):Value→Value→Prop
 |old (v:Value) (h:Old v):eN I Old v v
 |bool (b:Bool):eN I Old (.bool b) (.bool b)
 |int (k:IntKind) (n:Int):eN I Old (.int k n) (.int k n)
 |string (s:ByteArray):eN I Old (.string s) (.string s)
 |eX:eN I Old (.pointer none) (.pointer none)
 |ptr (b off b':Nat) (h:I b b'):eN I Old (.pointer (some ⟨b,off,none⟩)) (.pointer (some ⟨b',off,none⟩))
 |nilslice (n c:Nat):eN I Old (.slice none n c) (.slice none n c)
 |slice (b off n c b':Nat) (h:I b b'):eN I Old (.slice (some ⟨b,off,none⟩) n c) (.slice (some ⟨b',off,none⟩) n c)
 |eY:eN I Old (.map none) (.map none)
 |map (r r':Nat) (h:I r r'):eN I Old (.map (some r)) (.map (some r'))
 |func (f:FuncId) (x x' y y':List Value) (hx:bQ I Old x x') (hy:bQ I Old y y'):eN I Old (.func (.func f) ⟨x⟩ ⟨y⟩) (.func (.func f) ⟨x'⟩ ⟨y'⟩)
 |dY:eN I Old .nilFunc .nilFunc
 |iface (t:TypeId) (v v':Value) (h:eN I Old v v'):eN I Old (.iface t v) (.iface t v')
 |cE:eN I Old .nilIface .nilIface
 |agg (l l':List Value) (h:bQ I Old l l'):eN I Old (.agg ⟨l⟩) (.agg ⟨l'⟩)
 |tuple (l l':List Value) (h:bQ I Old l l'):eN I Old (.tuple ⟨l⟩) (.tuple ⟨l'⟩)
inductive bQ (I:Nat→Nat→Prop) (Old:Value→Prop):List Value→List Value→Prop
 |nil:bQ I Old [] []
 |cons (v v':Value) (l l':List Value) (h:eN I Old v v') (t:bQ I Old l l'):bQ I Old (v::l) (v'::l')
end
theorem bQ.get {I:Nat→Nat→Prop} {Old:Value→Prop}:∀ {l l':List Value} (_:bQ I Old l l') {i:Nat} {v:Value},l[i]? = some v→∃ v',l'[i]? = some v'∧eN I Old v v'
 | _,_,.nil,i,v,e=>by simp at e
 | _,_,.cons _ v' _ _ h t,0,v,e=>by simp at e;subst e;exact⟨v',rfl,h⟩
 | _,_,.cons _ _ _ _ h t,i+1,v,e=>by simp at e;simpa using bQ.get t e
theorem bQ.refl {I:Nat→Nat→Prop} {Old:Value→Prop}:∀ (l:List Value),(∀ v∈l,eN I Old v v)→bQ I Old l l
 | [],_ => .nil
 |v::l,h => .cons _ _ _ _ (h v (by simp)) (bQ.refl l fun y hy=>h y (by simp[hy]))
theorem bQ.append {I:Nat→Nat→Prop} {Old:Value→Prop}:∀ {l l' m m':List Value},bQ I Old l l'→bQ I Old m m'→bQ I Old (l++m) (l'++m')
 | _,_,_,_,.nil,k=>k
 | _,_,_,_,.cons _ _ _ _ h t,k => .cons _ _ _ _ h (t.append k)
mutual
theorem eN.rel {I:Nat→Nat→Prop} {Old:Value→Prop} {Γ aI:aV} (hI:∀ j j',I j j'→aI.blk j=Γ.blk j') (hO:∀ v,Old v→∀ u,ay Γ v u→ay aI v u) (hz:aI.eT=Γ.eT):
  ∀ {v v' u:Value},eN I Old v v'→ay Γ v' u→ay aI v u
 | _,_,_,.old v h,r=>hO v h _ r
 | _,_,_,.bool b,.bool _ => .bool b
 | _,_,_,.int k n,.int _ _ => .int k n
 | _,_,_,.string s,.string _ => .string s
 | _,_,_,.eX,.eX => .eX
 | _,_,_,.ptr b off b' h,.ptr _ a' ha => .ptr _ a' ⟨rfl,ha.spot',let ⟨s,e,o⟩:=ha.at_;⟨s,(hI _ _ h).trans e,o⟩⟩
 | _,_,_,.nilslice n c,.nilslice _ _ => .nilslice n c
 | _,_,_,.slice b off n c b' h,.slice _ a' _ _ c' ha hc=>by
  refine .slice _ a' n c c' ?_ ?_
  ·rcases ha with ha | ⟨h1,h2,h3,s,h4⟩ |hz
   ·exact .inl ⟨rfl,ha.spot',let ⟨s,e,o⟩:=ha.at_;⟨s,(hI _ _ h).trans e,o⟩⟩
   ·exact .inr (.inl ⟨h1,h2,h3,s,(hI _ _ h).trans h4⟩)
   ·exact .inr (.inr hz)
  ·unfold aV.cap at hc ⊢
   rw[hz];exact hc
 | _,_,_,.eY,.eY => .eY
 | _,_,_,.map r r' h,.map _ u hu => .map _ u ((hI _ _ h).trans hu)
 | _,_,_,.func f x x' y y' hx hy,.func _ fn' _ a _ b ha hb hp=>by
  refine .func _ fn' _ a _ b (bQ.rel hI hO hz hx ha) (bQ.rel hI hO hz hy hb) ?_
  cases hp with
  |plain _ hp=>exact .plain _ hp
 | _,_,_,.dY,.dY => .dY
 | _,_,_,.iface t v v' h,.iface _ _ u hu => .iface t v u (eN.rel hI hO hz h hu)
 | _,_,_,.cE,.cE => .cE
 | _,_,_,.agg l l' h,.agg _ u hu => .agg l u (bQ.rel hI hO hz h hu)
 | _,_,_,.tuple l l' h,.tuple _ u hu => .tuple l u (bQ.rel hI hO hz h hu)
theorem bQ.rel {I:Nat→Nat→Prop} {Old:Value→Prop} {Γ aI:aV} (hI:∀ j j',I j j'→aI.blk j=Γ.blk j') (hO:∀ v,Old v→∀ u,ay Γ v u→ay aI v u) (hz:aI.eT=Γ.eT):
  ∀ {l l' u:List Value},bQ I Old l l'→aD Γ l' u→aD aI l u
 | _,_,_,.nil,.nil => .nil
 | _,_,_,.cons _ _ _ _ h t,.cons _ _ _ _ hu tu => .cons _ _ _ _ (eN.rel hI hO hz h hu) (bQ.rel hI hO hz t tu)
end
mutual
theorem ay.down {Γ cG:aV} (hle:Γ.le cG):∀ {v Ac u:Value},ay Γ v Ac→ay cG v u→ay Γ v u
 | _,_,_,.bool b,.bool _ => .bool b
 | _,_,_,.int k n,.int _ _ => .int k n
 | _,_,_,.float k n,.float _ _ => .float k n
 | _,_,_,.complex k n m,.complex _ _ _ => .complex k n m
 | _,_,_,.string s,.string _ => .string s
 | _,_,_,.eX,.eX => .eX
 | _,_,_,.ptr a a₀ h₀,.ptr _ a' ha => .ptr a a' ⟨ha.spot,ha.spot',by
   obtain⟨s,e,o⟩:=ha.at_
   obtain⟨s₀,e₀,_⟩:=h₀.at_
   have:=hle.blk _ _ e₀
   rw[e] at this
   obtain⟨h1,rfl⟩:a'.block=a₀.block∧s=s₀:=by simpa using this
   exact⟨s,by rw[h1];exact e₀,o⟩⟩
 | _,_,_,.nilslice n c,.nilslice _ _ => .nilslice n c
 | _,_,_,.slice a a₀ n c c₀ h₀ k₀,.slice _ a' _ _ c' ha hc=>by
  by_cases hz:n=0∧c=0
  ·obtain⟨rfl,rfl⟩:=hz
   refine .slice a a' 0 0 c' (.inr (.inr ⟨rfl,rfl⟩)) ?_
   unfold aV.cap at hc ⊢
   rw[if_neg (by unfold aA;omega)] at hc ⊢
   exact hc
  obtain⟨s₀,e₀⟩:∃ s,Γ.blk a.block=some (a₀.block,s):=by
   rcases h₀ with h₀ |h₀ |h₀
   ·obtain⟨s,e,_⟩:=h₀.at_;exact⟨s,e⟩
   ·exact h₀.2.2.2
   ·exact absurd h₀ hz
  have e₂:=hle.blk _ _ e₀
  refine .slice a a' n c c' ?_ ?_
  ·rcases ha with ha | ⟨h1,h2,h3,s,h4⟩ |ha
   rotate_left 2
   ·exact absurd ha hz
   ·refine .inl ⟨ha.spot,ha.spot',?_⟩
    obtain⟨s,e,o⟩:=ha.at_
    rw[e] at e₂
    obtain⟨h1,rfl⟩:a'.block=a₀.block∧s=s₀:=by simpa using e₂
    exact⟨s,by rw[h1];exact e₀,o⟩
   ·refine .inr (.inl ⟨h1,h2,h3,s,?_⟩)
    rw[h4] at e₂
    obtain⟨h1,rfl⟩:a'.block=a₀.block∧s=s₀:=by simpa using e₂
    rw[h1];exact e₀
  ·unfold aV.cap at hc k₀ ⊢
   split
   ·rename_i hi
    have hb:a'.block=a₀.block:=by
     obtain⟨s,e⟩:=ha.block (by unfold aA at hi;omega)
     rw[e] at e₂
     exact(by simpa using e₂:a'.block=a₀.block∧s=s₀).1
    rw[if_pos hi] at hc k₀
    obtain⟨h1,M,h2,h3⟩:=hc
    obtain⟨_,Ub,h4,_⟩:=k₀
    have:=hle.eT _ _ h4
    rw[←hb,h2] at this
    obtain rfl:M=Ub:=by simpa using this
    exact⟨h1,M,by rw[hb];exact h4,h3⟩
   ·rename_i hi
    rw[if_neg hi] at hc
    exact hc
 | _,_,_,.eY,.eY => .eY
 | _,_,_,.map r r₀ h₀,.map _ r' h=>by
  have:=hle.blk _ _ h₀
  rw[h] at this
  obtain rfl:r'=r₀:=by simpa using this
  exact .map _ _ h₀
 | _,_,_,.l6,.l6 => .l6
 | _,_,_,.func fn _ f _ c _ hf hc hp,.func _ _ _ _ _ _ hf' GV hp'=>by
  refine .func _ _ _ _ _ _ (aD.down hle hf hf') (aD.down hle hc GV) ?_
  cases hp' with
  |plain _ h=>exact .plain _ h
  |yield l l' h=>
   cases hp with
   |plain _ h'=>exact absurd rfl (h' l)
   |yield _ l₀ h₀=>
    have:=hle.blk _ _ h₀
    rw[h] at this
    obtain rfl:l'=l₀:=by simpa using this
    exact .yield _ _ h₀
 | _,_,_,.dY,.dY => .dY
 | _,_,_,.iface t v _ h,.iface _ _ _ h' => .iface t v _ (ay.down hle h h')
 | _,_,_,.cE,.cE => .cE
 | _,_,_,.agg l _ h,.agg _ _ h' => .agg l _ (aD.down hle h h')
 | _,_,_,.tuple l _ h,.tuple _ _ h' => .tuple l _ (aD.down hle h h')
theorem aD.down {Γ cG:aV} (hle:Γ.le cG):∀ {l Ac u:List Value},aD Γ l Ac→aD cG l u→aD Γ l u
 | _,_,_,.nil,.nil => .nil
 | _,_,_,.cons _ _ _ _ h t,.cons _ _ _ _ h' t' => .cons _ _ _ _ (ay.down hle h h') (aD.down hle t t')
end
inductive rY (I:Nat→Nat→Prop) (Old:Value→Prop):List (Value×Value×Nat)→List (Value×Value×Nat)→Prop
 |nil:rY I Old [] []
 |cons (p q:Value×Value×Nat) (l l':List (Value×Value×Nat)) (hk:eN I Old p.1 q.1) (hv:eN I Old p.2.1 q.2.1) (hb:p.2.2=q.2.2) (t:rY I Old l l'):rY I Old (p::l) (q::l')
theorem rY.rel {I:Nat→Nat→Prop} {Old:Value→Prop} {Γ aI:aV} (hI:∀ j j',I j j'→aI.blk j=Γ.blk j') (hO:∀ v,Old v→∀ u,ay Γ v u→ay aI v u) (hz:aI.eT=Γ.eT):
  ∀ {l l':List (Value×Value×Nat)} {u:List MapEntry},rY I Old l l'→bz Γ l' u→bz aI l u
 | _,_,_,.nil,.nil => .nil
 | _,_,_,.cons _ _ _ _ hk hv hb t,.cons _ _ _ _ hk' MG hb' t' => .cons _ _ _ _ (hk.rel hI hO hz hk') (hv.rel hI hO hz MG) (hb.trans hb') (t.rel hI hO hz t')
inductive xL (I:Nat→Nat→Prop) (Old:Value→Prop):aj→aj→Prop
 |cells (l l':List Value) (ro:Bool) (h:bQ I Old l l'):xL I Old (.cells (PT.ofList .leaf 0 l) ro) (.cells (PT.ofList .leaf 0 l') ro)
 |map (es es':List (Value×Value×Nat)) (clk:Nat) (h:rY I Old es es'):xL I Old (.map es clk) (.map es' clk)
theorem xL.rel {I:Nat→Nat→Prop} {Old:Value→Prop} {Γ aI:aV} {w:World} (hI:∀ j j',I j j'→aI.blk j=Γ.blk j') (hO:∀ v,Old v→∀ u,ay Γ v u→ay aI v u) (hz:aI.eT=Γ.eT) {B B':aj} {b s:Nat}
  (h:xL I Old B B') (r:je Γ w B' b s):je aI w B b s:=by
 cases h with
 |cells l l' ro h=>
  obtain⟨cs,el,fz,h1,h2,h3⟩:=r
  refine⟨cs,el,fz,h1,h2,fun i v e=>?_⟩
  rw[PT.aF] at e
  obtain⟨v',e',q⟩:=h.get e
  obtain⟨u,e₂,q₂⟩:=h3 i v' (by rw[PT.aF];exact e')
  exact⟨u,e₂,q.rel hI hO hz q₂⟩
 |map es es' clk h=>
  obtain⟨h0,aK,h1,h2⟩:=r
  exact⟨h0,aK,h1,h.rel hI hO hz h2⟩
theorem xL.bO {I:Nat→Nat→Prop} {Old:Value→Prop} {B B':aj} (h:xL I Old B B'):B.bO↔B'.bO:=by cases h<;>exact Iff.rfl
theorem bz.down {Γ cG:aV} (hle:Γ.le cG):∀ {l:List (Value×Value×Nat)} {Ac u:List MapEntry},bz Γ l Ac→bz cG l u→bz Γ l u
 | _,_,_,.nil,.nil => .nil
 | _,_,_,.cons _ _ _ _ hk hv hb t,.cons _ _ _ _ hk' MG hb' t' => .cons _ _ _ _ (ay.down hle hk hk') (ay.down hle hv MG) hb' (bz.down hle t t')
theorem je.down {Γ cG:aV} (hle:Γ.le cG) {w w₂:World} {B:aj} {b s:Nat} (h₀:je Γ w B b s) (h:je cG w₂ B b s):je Γ w₂ B b s:=by
 cases B with
 |cells c ro=>
  obtain⟨XT,XU,XV,_,_,Cy⟩:=h₀
  obtain⟨cs,el,fz,h1,h2,h3⟩:=h
  refine⟨cs,el,fz,h1,h2,fun i v e=>?_⟩
  obtain⟨Ac,_,Uc⟩:=Cy i v e
  obtain⟨u,e',q⟩:=h3 i v e
  exact⟨u,e',ay.down hle Uc q⟩
 |map es clk=>
  obtain⟨_,P8,_,M_⟩:=h₀
  obtain⟨h0,aK,h1,h2⟩:=h
  exact⟨h0,aK,h1,bz.down hle M_ h2⟩
 |iter m since seen stepped=>
  obtain⟨_,m₀,_,_,Cy⟩:=h₀
  obtain⟨h0,m',h1,h2,h3⟩:=h
  refine⟨h0,m',h1,h2,fun r hr=>?_⟩
  obtain⟨r₀,_,e₀⟩:=Cy r hr
  obtain⟨r',e',e⟩:=h3 r hr
  have:=hle.blk _ _ e₀
  rw[e] at this
  obtain rfl:r'=r₀:=by simpa using this
  exact⟨r',e',e₀⟩
 |loop st fD tm ps as bd=>
  obtain⟨_,acy,_,_,_,ht₀,_⟩:=h₀
  obtain⟨h0,L,h1,h2,h3,ht,h5⟩:=h
  exact⟨h0,L,h1,h2,h3,⟨ht.size,fun i=>ay.down hle (ht₀.get i) (ht.get i)⟩,h5⟩
 |deferred=>exact h
end Go.Am
