/-
  The abstract machine, for proofs with variables: the rules.
-/
import Derived.Test.YtfhmopghjoeamaaGreatAmX2
set_option linter.unusedSimpArgs false
set_option linter.unusedVariables false
namespace Go.Am
section size
variable {P:Program} {O:Over} {ev:iA}
def NE (ev:iA):Prop:=∀ ro lim c m s x s',ev ro lim c m s = .ok x s'→x.2.n=m.n
theorem II {m m':Tm} {d:Option Nat} {v:Value} (e:m.put d v=some m'):m'.n=m.n:=by
 unfold Tm.put at e
 cases d with
 |none=>simp only[Option.some.injEq] at e;rw[←e]
 |some i=>
  simp only at e
  cases hb:Nat.blt i m.n with
  |false=>rw[hb] at e;simp at e
  |true=>rw[hb] at e;simp only[cond_true,Option.some.injEq] at e;rw[←e]
theorem IJ {lim:Nat} {ops:List Oper} {o:Oper} {m m':Tm} {s s':HS} (e:kE P O ev lim ops o m s = .ok m' s'):m'.n=m.n:=by
 unfold kE at e
 obtain⟨v,s₁,_,e₂⟩:=aU e
 unfold gT at e₂
 cases hp:m.put o.dst v with
 |none=>rw[hp] at e₂;simp at e₂
 |some m₁=>rw[hp] at e₂;simp only[aS.ok.injEq] at e₂;rw[←e₂.1];exact II hp
theorem DE {lim:Nat} {ops:List Oper}:∀ (r:List Oper) {m m':Tm} {s s':HS},gp P O ev lim ops r m s = .ok m' s'→m'.n=m.n
 | [],m,m',s,s',e=>by simp only[gp,aS.ok.injEq] at e;rw[e.1]
 |o::r,m,m',s,s',e=>by
  simp only[gp] at e
  obtain⟨v,s₁,e₁,e₂⟩:=aU e
  rw[DE r e₂,IJ e₁]
theorem zc {ops:List Oper}:∀ (r:List Oper) {m:Tm} {H:PT ak} {n:Nat} {x:Tm×List bD} {s':HS},gq P O ev ops r m H n = .ok x s'→x.1.n=m.n
 | [],m,H,n,x,s',e=>by simp only[gq,aS.ok.injEq] at e;rw[←e.1]
 |o::r,m,H,n,x,s',e=>by
  simp only[gq] at e
  obtain⟨v,s₁,e₁,e₂⟩:=aU e
  obtain⟨y,s₂,e₃,e₄⟩:=aU e₂
  simp only[aS.ok.injEq] at e₄
  rw[←e₄.1]
  show y.1.n=m.n
  rw[zc r e₃,IJ e₁]
theorem EK {lim:Nat} {ops:List Oper} {m m':Tm} {s s':HS} (e:dV P O ev lim ops m s = .ok m' s'):m'.n=m.n:=by
 unfold dV at e
 cases hd:fY ops (aO (aM [] ops) ops.length) with
 |false=>rw[hd] at e;simp at e
 |true=>
  rw[hd] at e
  simp only[cond_true] at e
  obtain⟨x,s₁,e₁,e₂⟩:=aU e
  cases hf:cB x.2 (aO (aM [] ops) ops.length) with
  |false=>rw[hf] at e₂;simp at e₂
  |true=>rw[hf] at e₂;simp only[cond_true,aS.ok.injEq] at e₂;rw[←e₂.1];exact zc ops e₁
theorem EL (h:NE ev):NE (a_ P O ev):=by
 intro ro lim c m s x s' e
 cases c with
 |skip=>simp only[a_,aS.ok.injEq] at e;rw[←e.1]
 |label l=>simp only[a_,aS.ok.injEq] at e;rw[←e.1]
 |exit id=>simp only[a_,aS.ok.injEq] at e;rw[←e.1]
 |ret=>simp only[a_,aS.ok.injEq] at e;rw[←e.1]
 |goto l=>simp[a_] at e
 |refuse w=>simp[a_] at e
 |scope c=>exact h _ _ _ _ _ _ _ e
 |region id ops draw=>
  simp only[a_] at e
  obtain⟨m',s₁,e₁,e₂⟩:=aU e
  simp only[aS.ok.injEq] at e₂
  rw[←e₂.1]
  cases draw with
  |true=>exact EK e₁
  |false=>exact DE _ e₁
 |seq a b=>
  simp only[a_] at e
  obtain⟨y,s₁,e₁,e₂⟩:=aU e
  have:=h _ _ _ _ _ _ _ e₁
  cases hy:y.1 with
  |normal=>simp only[hy] at e₂;rw[h _ _ _ _ _ _ _ e₂,this]
  |exit i=>simp only[hy,aS.ok.injEq] at e₂;rw[←e₂.1,this]
  |ret=>simp only[hy,aS.ok.injEq] at e₂;rw[←e₂.1,this]
 |loop c=>
  simp only[a_] at e
  obtain⟨y,s₁,e₁,e₂⟩:=aU e
  have:=h _ _ _ _ _ _ _ e₁
  cases hy:y.1 with
  |normal=>simp only[hy] at e₂;rw[h _ _ _ _ _ _ _ e₂,this]
  |exit i=>simp only[hy,aS.ok.injEq] at e₂;rw[←e₂.1,this]
  |ret=>simp only[hy,aS.ok.injEq] at e₂;rw[←e₂.1,this]
 |cond c a b=>
  simp only[a_] at e
  cases hg:aW c with
  |false=>rw[hg] at e;simp at e
  |true=>
   rw[hg] at e
   simp only[cond_true] at e
   generalize m.eval c=z at e
   cases z with
   |bool t=>cases t<;>exact h _ _ _ _ _ _ _ e
   | _=>simp at e
 |block id c=>
  simp only[a_] at e
  obtain⟨y,s₁,e₁,e₂⟩:=aU e
  have:=h _ _ _ _ _ _ _ e₁
  cases hy:y.1 with
  |normal=>simp only[hy,aS.ok.injEq] at e₂;rw[←e₂.1,this]
  |exit i=>simp only[hy,aS.ok.injEq] at e₂;rw[←e₂.1];exact this
  |ret=>simp only[hy,aS.ok.injEq] at e₂;rw[←e₂.1,this]
 |rangeFunc g ps as bd=>
  simp only[a_] at e
  unfold dW at e
  cases hg:aW g with
  |false=>rw[hg] at e;simp at e
  |true=>
   rw[hg] at e
   simp only[cond_true] at e
   obtain⟨_,_,_,e⟩:=aU e
   obtain⟨_,_,_,e⟩:=aU e
   obtain⟨_,_,_,e⟩:=aU e
   obtain⟨_,_,_,e⟩:=aU e
   simp only[aS.ok.injEq] at e
   rw[←e.1]
theorem ze:∀ k,NE (jg P O k)
 |0=>fun ro lim c m s x s' e=>by
  have e:(aS.fail "fuel":aS (bp×Tm)) = .ok x s':=e
  simp at e
 |k+1=>EL (ze k)
end size
section rules
variable {z:Zx} {K:List KF} {m:Tm} {h:PT ak} {n:Nat} {R:bp→Tm→PT ak→Nat→Prop}
theorem zf {c:Code} {k:Nat} {ro:Option Nat} {x:bp×Tm} {s:HS} (e:jg z.P z.O k ro 0 c m (S0 h n) = .ok x s):s=S0 s.heap s.next:=zb k ro c m h n x s e
theorem BW:Ev z .skip m h n R↔m.n=z.N∧R .normal m h n:=by
 refine and_congr_right fun hm=>⟨?_,fun r=>⟨1,(.normal,m),h,n,rfl,r⟩⟩
 rintro ⟨k,x,h',n',e,r⟩
 cases k with
 |zero=>have e:(aS.fail "fuel":aS (bp×Tm)) = .ok x (S0 h' n'):=e;simp at e
 |succ k=>have e:(aS.ok (bp.normal,m) (S0 h n):aS (bp×Tm)) = .ok x (S0 h' n'):=e;simp only[S0,aS.ok.injEq,HS.mk.injEq] at e;obtain⟨rfl,rfl,rfl,_⟩:=e;exact r
theorem zg {l:Nat}:Ev z (.label l) m h n R↔m.n=z.N∧R .normal m h n:=by
 refine and_congr_right fun hm=>⟨?_,fun r=>⟨1,(.normal,m),h,n,rfl,r⟩⟩
 rintro ⟨k,x,h',n',e,r⟩
 cases k with
 |zero=>have e:(aS.fail "fuel":aS (bp×Tm)) = .ok x (S0 h' n'):=e;simp at e
 |succ k=>have e:(aS.ok (bp.normal,m) (S0 h n):aS (bp×Tm)) = .ok x (S0 h' n'):=e;simp only[S0,aS.ok.injEq,HS.mk.injEq] at e;obtain⟨rfl,rfl,rfl,_⟩:=e;exact r
theorem BX {i:Nat}:Ev z (.exit i) m h n R↔m.n=z.N∧R (.exit i) m h n:=by
 refine and_congr_right fun hm=>⟨?_,fun r=>⟨1,(.exit i,m),h,n,rfl,r⟩⟩
 rintro ⟨k,x,h',n',e,r⟩
 cases k with
 |zero=>have e:(aS.fail "fuel":aS (bp×Tm)) = .ok x (S0 h' n'):=e;simp at e
 |succ k=>have e:(aS.ok (bp.exit i,m) (S0 h n):aS (bp×Tm)) = .ok x (S0 h' n'):=e;simp only[S0,aS.ok.injEq,HS.mk.injEq] at e;obtain⟨rfl,rfl,rfl,_⟩:=e;exact r
theorem EM:Ev z .ret m h n R↔m.n=z.N∧R .ret m h n:=by
 refine and_congr_right fun hm=>⟨?_,fun r=>⟨1,(.ret,m),h,n,rfl,r⟩⟩
 rintro ⟨k,x,h',n',e,r⟩
 cases k with
 |zero=>have e:(aS.fail "fuel":aS (bp×Tm)) = .ok x (S0 h' n'):=e;simp at e
 |succ k=>have e:(aS.ok (bp.ret,m) (S0 h n):aS (bp×Tm)) = .ok x (S0 h' n'):=e;simp only[S0,aS.ok.injEq,HS.mk.injEq] at e;obtain⟨rfl,rfl,rfl,_⟩:=e;exact r
theorem zh {c:Code}:Ev z (.scope c) m h n R↔Ev z c m h n R:=by
 refine and_congr_right fun hm=>⟨?_,?_⟩
 ·rintro ⟨k,x,h',n',e,r⟩
  cases k with
  |zero=>have e:(aS.fail "fuel":aS (bp×Tm)) = .ok x (S0 h' n'):=e;simp at e
  |succ k=>exact⟨k,x,h',n',e,r⟩
 ·rintro ⟨k,x,h',n',e,r⟩
  exact⟨k+1,x,h',n',e,r⟩
theorem EN {a b:Code}:Ev z (.seq a b) m h n R↔Ev z a m h n (fun e m h n=>match e with | .normal=>Ev z b m h n R | _=>R e m h n):=by
 refine and_congr_right fun hm=>⟨?_,?_⟩
 ·rintro ⟨k,x,h',n',e,r⟩
  cases k with
  |zero=>have e:(aS.fail "fuel":aS (bp×Tm)) = .ok x (S0 h' n'):=e;simp at e
  |succ k=>
   rw[bO] at e
   simp only[a_] at e
   obtain⟨y,s₁,e₁,e₂⟩:=aU e
   have hs:=zf e₁
   refine⟨k,y,s₁.heap,s₁.next,hs ▸ e₁,?_⟩
   cases hy:y.1 with
   |normal=>simp only[hy] at e₂ ⊢;exact⟨(ze k _ _ _ _ _ _ _ e₁).trans hm,k,x,h',n',hs ▸ e₂,r⟩
   |exit i=>simp only[hy,aS.ok.injEq] at e₂ ⊢;obtain⟨rfl,rfl⟩:=e₂;rw[hy] at r;exact r
   |ret=>simp only[hy,aS.ok.injEq] at e₂ ⊢;obtain⟨rfl,rfl⟩:=e₂;rw[hy] at r;exact r
 ·rintro ⟨k,y,h₁,n₁,e₁,r⟩
  cases hy:y.1 with
  |normal=>
   simp only[hy] at r
   obtain⟨_,k₂,x,h',n',e₂,r⟩:=r
   refine⟨max k k₂+1,x,h',n',?_,r⟩
   rw[bO]
   simp only[a_]
   rw[eS (Nat.le_max_left k k₂) _ _ _ _ _ _ _ e₁,aL]
   simp only[hy]
   exact eS (Nat.le_max_right k k₂) _ _ _ _ _ _ _ e₂
  |exit i=>
   simp only[hy] at r
   refine⟨k+1,y,h₁,n₁,?_,by rw[hy];exact r⟩
   rw[bO];simp only[a_];rw[e₁,aL];simp only[hy]
  |ret=>
   simp only[hy] at r
   refine⟨k+1,y,h₁,n₁,?_,by rw[hy];exact r⟩
   rw[bO];simp only[a_];rw[e₁,aL];simp only[hy]
theorem BZ {c:Code}:Ev z (.loop c) m h n R↔Ev z c m h n (fun e m h n=>match e with | .normal=>Ev z (.loop c) m h n R | _=>R e m h n):=by
 refine and_congr_right fun hm=>⟨?_,?_⟩
 ·rintro ⟨k,x,h',n',e,r⟩
  cases k with
  |zero=>have e:(aS.fail "fuel":aS (bp×Tm)) = .ok x (S0 h' n'):=e;simp at e
  |succ k=>
   rw[bO] at e
   simp only[a_] at e
   obtain⟨y,s₁,e₁,e₂⟩:=aU e
   have hs:=zf e₁
   refine⟨k,y,s₁.heap,s₁.next,hs ▸ e₁,?_⟩
   cases hy:y.1 with
   |normal=>simp only[hy] at e₂ ⊢;exact⟨(ze k _ _ _ _ _ _ _ e₁).trans hm,k,x,h',n',hs ▸ e₂,r⟩
   |exit i=>simp only[hy,aS.ok.injEq] at e₂ ⊢;obtain⟨rfl,rfl⟩:=e₂;rw[hy] at r;exact r
   |ret=>simp only[hy,aS.ok.injEq] at e₂ ⊢;obtain⟨rfl,rfl⟩:=e₂;rw[hy] at r;exact r
 ·rintro ⟨k,y,h₁,n₁,e₁,r⟩
  cases hy:y.1 with
  |normal=>
   simp only[hy] at r
   obtain⟨_,k₂,x,h',n',e₂,r⟩:=r
   refine⟨max k k₂+1,x,h',n',?_,r⟩
   rw[bO]
   simp only[a_]
   rw[eS (Nat.le_max_left k k₂) _ _ _ _ _ _ _ e₁,aL]
   simp only[hy]
   exact eS (Nat.le_max_right k k₂) _ _ _ _ _ _ _ e₂
  |exit i=>
   simp only[hy] at r
   refine⟨k+1,y,h₁,n₁,?_,by rw[hy];exact r⟩
   rw[bO];simp only[a_];rw[e₁,aL];simp only[hy]
  |ret=>
   simp only[hy] at r
   refine⟨k+1,y,h₁,n₁,?_,by rw[hy];exact r⟩
   rw[bO];simp only[a_];rw[e₁,aL];simp only[hy]
theorem zi {id:Nat} {c:Code}:Ev z (.block id c) m h n R↔Ev z c m h n (fun e m h n=>match e with | .exit i=>R (cond (Nat.beq i id) .normal (.exit i)) m h n | _=>R e m h n):=by
 refine and_congr_right fun hm=>⟨?_,?_⟩
 ·rintro ⟨k,x,h',n',e,r⟩
  cases k with
  |zero=>have e:(aS.fail "fuel":aS (bp×Tm)) = .ok x (S0 h' n'):=e;simp at e
  |succ k=>
   rw[bO] at e
   simp only[a_] at e
   obtain⟨y,s₁,e₁,e₂⟩:=aU e
   have hs:=zf e₁
   refine⟨k,y,s₁.heap,s₁.next,hs ▸ e₁,?_⟩
   cases hy:y.1 with
   |normal=>simp only[hy,aS.ok.injEq] at e₂ ⊢;obtain⟨rfl,rfl⟩:=e₂;rw[hy] at r;exact r
   |exit i=>simp only[hy,aS.ok.injEq] at e₂ ⊢;obtain⟨rfl,rfl⟩:=e₂;exact r
   |ret=>simp only[hy,aS.ok.injEq] at e₂ ⊢;obtain⟨rfl,rfl⟩:=e₂;rw[hy] at r;exact r
 ·rintro ⟨k,y,h₁,n₁,e₁,r⟩
  cases hy:y.1 with
  |normal=>
   simp only[hy] at r
   refine⟨k+1,y,h₁,n₁,?_,by rw[hy];exact r⟩
   rw[bO];simp only[a_];rw[e₁,aL];simp only[hy]
  |exit i=>
   simp only[hy] at r
   refine⟨k+1,(cond (Nat.beq i id) .normal (.exit i),y.2),h₁,n₁,?_,r⟩
   rw[bO];simp only[a_];rw[e₁,aL];simp only[hy]
  |ret=>
   simp only[hy] at r
   refine⟨k+1,y,h₁,n₁,?_,by rw[hy];exact r⟩
   rw[bO];simp only[a_];rw[e₁,aL];simp only[hy]
theorem B1 {c:Operand} {a b:Code}:Ev z (.cond c a b) m h n R↔aW c=true∧∃ t,m.eval c = .bool t∧Ev z (cond t a b) m h n R:=by
 constructor
 ·rintro ⟨hm,k,x,h',n',e,r⟩
  cases k with
  |zero=>have e:(aS.fail "fuel":aS (bp×Tm)) = .ok x (S0 h' n'):=e;simp at e
  |succ k=>
   rw[bO] at e
   simp only[a_] at e
   cases hg:aW c with
   |false=>rw[hg] at e;simp at e
   |true=>
    rw[hg] at e
    simp only[cond_true] at e
    refine⟨rfl,?_⟩
    generalize m.eval c=v at e ⊢
    cases v with
    |bool t=>cases t<;>exact⟨_,rfl,hm,k,x,h',n',e,r⟩
    | _=>simp at e
 ·rintro ⟨hg,t,ht,hm,k,x,h',n',e,r⟩
  refine⟨hm,k+1,x,h',n',?_,r⟩
  rw[bO]
  simp only[a_,hg,cond_true,ht]
  cases t<;>exact e
theorem B3 {a b:Code}:ec z (.seq a b) K m h n↔ec z a (.seq b::K) m h n:=by
 unfold ec
 rw[EN]
 refine⟨Ev.mono fun e m h n r=>?_,Ev.mono fun e m h n r=>?_⟩<;>cases e<;>exact r
theorem w9 {id:Nat} {c:Code}:ec z (.block id c) K m h n↔ec z c (.block id::K) m h n:=by
 unfold ec
 rw[zi]
 refine⟨Ev.mono fun e m h n r=>?_,Ev.mono fun e m h n r=>?_⟩<;>cases e<;>exact r
theorem sH {c:Code}:ec z (.loop c) K m h n↔ec z c (.loop c::K) m h n:=by
 unfold ec
 rw[BZ]
 refine⟨Ev.mono fun e m h n r=>?_,Ev.mono fun e m h n r=>?_⟩<;>cases e<;>exact r
theorem w_ {c:Code}:ec z (.scope c) K m h n↔ec z c K m h n:=zh
theorem qJ:∀ {K:List KF} {e:bp},Rs z K e m h n→m.n=z.N
 | [],e,r=>r.1
 | .seq c::K,e,r=>by cases e<;>first |exact r.1 |exact qJ (K:=K) r
 | .block id::K,e,r=>by cases e<;>exact qJ (K:=K) r
 | .loop c::K,e,r=>by cases e<;>first |exact r.1 |exact qJ (K:=K) r
theorem zj:ec z .skip K m h n↔Rs z K .normal m h n:=BW.trans ⟨fun r=>r.2,fun r=>⟨qJ r,r⟩⟩
theorem xd {l:Nat}:ec z (.label l) K m h n↔Rs z K .normal m h n:=zg.trans ⟨fun r=>r.2,fun r=>⟨qJ r,r⟩⟩
theorem zk {i:Nat}:ec z (.exit i) K m h n↔Rs z K (.exit i) m h n:=BX.trans ⟨fun r=>r.2,fun r=>⟨qJ r,r⟩⟩
theorem B4:ec z .ret K m h n↔Rs z K .ret m h n:=EM.trans ⟨fun r=>r.2,fun r=>⟨qJ r,r⟩⟩
theorem EO {c:Code}:Rs z (.seq c::K) .normal m h n↔ec z c K m h n:=Iff.rfl
theorem sI {c:Code} {i:Nat}:Rs z (.seq c::K) (.exit i) m h n↔Rs z K (.exit i) m h n:=Iff.rfl
theorem uX {c:Code}:Rs z (.seq c::K) .ret m h n↔Rs z K .ret m h n:=Iff.rfl
theorem zm {id:Nat}:Rs z (.block id::K) .normal m h n↔Rs z K .normal m h n:=Iff.rfl
theorem qK {id:Nat}:Rs z (.block id::K) .ret m h n↔Rs z K .ret m h n:=Iff.rfl
theorem o_ {id i:Nat}:Rs z (.block id::K) (.exit i) m h n↔Rs z K (cond (Nat.beq i id) .normal (.exit i)) m h n:=Iff.rfl
theorem B5 {c:Code}:Rs z (.loop c::K) .normal m h n↔ec z (.loop c) K m h n:=Iff.rfl
theorem qL {c:Code} {i:Nat}:Rs z (.loop c::K) (.exit i) m h n↔Rs z K (.exit i) m h n:=Iff.rfl
theorem sJ {c:Code}:Rs z (.loop c::K) .ret m h n↔Rs z K .ret m h n:=Iff.rfl
theorem EP {e:bp}:Rs z [] e m h n↔m.n=z.N∧z.Q e m h n:=Iff.rfl
def sK (z:Zx) (v:Value) (a b:Code) (K:List KF) (m:Tm) (h:PT ak) (n:Nat):Prop:=∃ t,v = .bool t∧ec z (cond t a b) K m h n
theorem zn {c:Operand} {a b:Code}:ec z (.cond c a b) K m h n↔aW c=true∧sK z (m.eval c) a b K m h n:=B1
theorem oz {a b:Code}:sK z (.bool true) a b K m h n↔ec z a K m h n:=⟨fun ⟨t,e,r⟩=>by cases e;exact r,fun r=>⟨true,rfl,r⟩⟩
theorem lK {a b:Code}:sK z (.bool false) a b K m h n↔ec z b K m h n:=⟨fun ⟨t,e,r⟩=>by cases e;exact r,fun r=>⟨false,rfl,r⟩⟩
theorem sL {a b:Code} {t:Bool} (h1:t=true→ec z a K m h n) (h2:t=false→ec z b K m h n):sK z (.bool t) a b K m h n:=by
 refine⟨t,rfl,?_⟩;cases t<;>first |exact h1 rfl |exact h2 rfl
theorem B6 {a b:Code} {p:Prop} [Decidable p] (h1:p→ec z a K m h n) (h2: ¬ p→ec z b K m h n):sK z (.bool (decide p)) a b K m h n:=
 sL (fun e=>h1 (of_decide_eq_true e)) fun e=>h2 (of_decide_eq_false e)
theorem uY {id:Nat} {ops:Array Oper}:ec z (.region id ops false) K m h n↔Bc z ops.toList ops.toList K m h n:=by
 refine and_congr_right fun hm=>⟨?_,?_⟩
 ·rintro ⟨k,x,h',n',e,r⟩
  cases k with
  |zero=>have e:(aS.fail "fuel":aS (bp×Tm)) = .ok x (S0 h' n'):=e;simp at e
  |succ k=>
   rw[bO] at e
   simp only[a_,cond_false] at e
   obtain⟨m',s₁,e₁,e₂⟩:=aU e
   simp only[aS.ok.injEq] at e₂
   obtain⟨rfl,rfl⟩:=e₂
   exact⟨k,m',h',n',e₁,r⟩
 ·rintro ⟨k,m',h',n',e,r⟩
  refine⟨k+1,(.normal,m'),h',n',?_,r⟩
  rw[bO]
  simp only[a_,cond_false,e,aL]
theorem B7 {ops:List Oper}:Bc z ops [] K m h n↔Rs z K .normal m h n:=by
 constructor
 ·rintro ⟨hm,k,m',h',n',e,r⟩
  simp only[gp,S0,aS.ok.injEq,HS.mk.injEq] at e
  obtain⟨rfl,rfl,rfl,_⟩:=e
  exact r
 ·intro r
  exact⟨qJ r,0,m,h,n,rfl,r⟩
def gP (z:Zx) (w:Bool) (o:Oper) (ops r:List Oper) (K:List KF) (m:Tm) (h:PT ak) (n:Nat):Prop:=
 cond w (o.op.operands.toList.all aW=true∧ia z (gO z.P m.eval o) o.dst ops r K m h n) (ia z (.pure .skip) o.dst ops r K m h n)
theorem zo {o:Oper} {ops r:List Oper}:Bc z ops (o::r) K m h n↔gP z (bM ops m o) o ops r K m h n:=by
 unfold gP
 cases hw:bM ops m o with
 |false=>
  simp only[cond_false]
  refine and_congr_right fun hm=>?_
  simp only[gp,kE,hw,cond_false,AP.run,aL,ep]
 |true=>
  simp only[cond_true]
  constructor
  ·rintro ⟨hm,k,m',h',n',e,r⟩
   simp only[gp,kE,hw,cond_true,gS] at e
   cases hf:o.op.operands.toList.all aW with
   |false=>rw[hf] at e;simp[bz] at e
   |true=>
    rw[hf] at e
    simp only[cond_true,fN] at e
    exact⟨rfl,hm,k,m',h',n',e,r⟩
  ·rintro ⟨hf,hm,k,m',h',n',e,r⟩
   refine⟨hm,k,m',h',n',?_,r⟩
   simp only[gp,kE,hw,cond_true,gS,hf,fN]
   exact e
theorem zq {o:Oper} {ops r:List Oper}:gP z true o ops r K m h n↔o.op.operands.toList.all aW=true∧ia z (gO z.P m.eval o) o.dst ops r K m h n:=Iff.rfl
theorem xe {o:Oper} {ops r:List Oper}:gP z false o ops r K m h n↔ia z (.pure .skip) o.dst ops r K m h n:=Iff.rfl
def up (m:Tm) (i:Nat) (v:Value):Tm:={ m with t:=m.t.set i (some v) }
variable {d:Option Nat} {ops r:List Oper}
theorem sM {i:Nat} {v:Value}:(up m i v).get i=v:=by simp[up,Tm.get,PT.dY]
theorem xg {i j:Nat} {v:Value} (hij:i≠j):(up m i v).get j=m.get j:=by simp[up,Tm.get,PT.bE _ _ hij]
theorem ER {i:Nat} {v:Value}:(up m i v).n=m.n:=rfl
theorem ES {i:Nat} {v:Value}:(up m i v).gn=m.gn:=rfl
theorem pQ {i:Nat} {v:Value}:ia z (.pure (.value v)) (some i) ops r K m h n↔i<z.N∧Bc z ops r K (up m i v) h n:=by
 unfold ia Bc
 simp only[AP.run,aL,ep,gT,Tm.put,ER]
 constructor
 ·rintro ⟨hm,k,m',h',n',e,q⟩
  cases hb:Nat.blt i m.n with
  |false=>rw[hb] at e;simp[bz] at e
  |true=>
   rw[hb] at e
   have:=Nat.le_of_ble_eq_true hb
   exact⟨by omega,hm,k,m',h',n',e,q⟩
 ·rintro ⟨hi,hm,k,m',h',n',e,q⟩
  have hb:Nat.blt i m.n=true:=Nat.ble_eq_true_of_le (by omega)
  exact⟨hm,k,m',h',n',by rw[hb];exact e,q⟩
theorem uZ {v:Value}:ia z (.pure (.value v)) none ops r K m h n↔Bc z ops r K m h n:=Iff.rfl
theorem zu {i:Nat}:ia z (.pure .skip) (some i) ops r K m h n↔i<z.N∧Bc z ops r K (up m i fW) h n:=pQ (v:=fW)
theorem xh:ia z (.pure .skip) none ops r K m h n↔Bc z ops r K m h n:=Iff.rfl
theorem zv {w:String}:ia z (.fail w) d ops r K m h n↔False:=by
 constructor
 ·rintro ⟨_,k,m',h',n',e,_⟩;simp[AP.run,bz] at e
 ·exact False.elim
def IK (z:Zx) (b:Option ak) (f:ak→AP aC) (d:Option Nat) (ops r:List Oper) (K:List KF) (m:Tm) (h:PT ak) (n:Nat):Prop:=
 match b with
 |some b=>ia z (f b) d ops r K m h n
 |none=>False
theorem vT {id:Nat} {f:ak→AP aC}:ia z (.get id f) d ops r K m h n↔IK z (h.get id) f d ops r K m h n:=by
 unfold IK ia
 simp only[AP.run,show (S0 h n).heap=h from rfl]
 cases hb:h.get id with
 |none=>simp[bz]
 |some b=>simp only[show Nat.blt id 0=false from rfl,cond_false]
theorem sN {b:ak} {f:ak→AP aC}:IK z (some b) f d ops r K m h n↔ia z (f b) d ops r K m h n:=Iff.rfl
def ET (z:Zx) (o:Option ak) (id:Nat) (b:Option ak) (p:AP aC) (d:Option Nat) (ops r:List Oper) (K:List KF) (m:Tm) (h:PT ak) (n:Nat):Prop:=
 match o with
 |some _=>ia z p d ops r K m (h.set id b) n
 |none=>False
theorem B8 {id:Nat} {b:ak} {p:AP aC}:ia z (.set id b p) d ops r K m h n↔ET z (h.get id) id (some b) p d ops r K m h n:=by
 unfold ET ia
 simp only[AP.run,show (S0 h n).heap=h from rfl]
 cases hb:h.get id with
 |none=>simp[bz]
 |some c=>simp only[show Nat.blt id 0=false from rfl,cond_false];exact Iff.rfl
theorem zw {id:Nat} {p:AP aC}:ia z (.kill id p) d ops r K m h n↔ET z (h.get id) id none p d ops r K m h n:=by
 unfold ET ia
 simp only[AP.run,show (S0 h n).heap=h from rfl]
 cases hb:h.get id with
 |none=>simp[bz]
 |some c=>simp only[show Nat.blt id 0=false from rfl,cond_false];exact Iff.rfl
theorem zx {c:ak} {id:Nat} {b:Option ak} {p:AP aC}:ET z (some c) id b p d ops r K m h n↔ia z p d ops r K m (h.set id b) n:=Iff.rfl
theorem B9 {b:ak} {f:Nat→AP aC}:ia z (.new b f) d ops r K m h n↔ia z (f n) d ops r K m (h.set n (some b)) (n+1):=Iff.rfl
def EU (z:Zx) (s:Option (AP Value)) (f:FuncId) (args:List Value) (d:Option Nat) (ops r:List Oper) (K:List KF) (m:Tm) (h:PT ak) (n:Nat):Prop:=
 match s with
 |some p=>ia z (p.bind fun v => .pure (.value v)) d ops r K m h n
 |none=>ia z (.pure (.enter f args)) d ops r K m h n
theorem run_bind {α β:Type} {lim:Nat}:∀ (p:AP α) (f:α→AP β) (s:HS),(p.bind f).run lim s=bz (p.run lim s) fun a s=>(f a).run lim s
 | .pure a,f,s=>rfl
 | .fail w,f,s=>rfl
 | .get id k,f,s=>by
  simp only[AP.bind,AP.run]
  cases s.heap.get id with
  |none=>rfl
  |some b=>exact run_bind (k b) f _
 | .set id b k,f,s=>by
  simp only[AP.bind,AP.run]
  cases s.heap.get id with
  |none=>rfl
  |some _=>exact run_bind k f _
 | .kill id k,f,s=>by
  simp only[AP.bind,AP.run]
  cases s.heap.get id with
  |none=>rfl
  |some _=>exact run_bind k f _
 | .new b k,f,s=>by
  simp only[AP.bind,AP.run]
  exact run_bind (k s.next) f _
theorem xj {f:FuncId} {args:List Value}:ia z (.pure (.enter f args)) d ops r K m h n↔EU z (z.O f args) f args d ops r K m h n:=by
 unfold EU
 cases hO:z.O f args with
 |none=>exact Iff.rfl
 |some p=>
  simp only[ia,run_bind,fN,AP.run,aL,ep,dO,hO]
theorem zy {p:AP Value} {f:FuncId} {args:List Value}:EU z (some p) f args d ops r K m h n↔ia z (p.bind fun v => .pure (.value v)) d ops r K m h n:=Iff.rfl
end rules
end Go.Am
