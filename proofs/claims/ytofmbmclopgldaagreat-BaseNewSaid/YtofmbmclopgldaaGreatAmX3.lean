/-
  The abstract machine, for proofs with variables: the rules.
-/
import Derived.Test.YtofmbmclopgldaaGreatAmX2
set_option linter.unusedSimpArgs false
set_option linter.unusedVariables false
namespace Go.Am
section size
variable {P:Program} {O:Over} {ev:fU}
def NE (ev:fU):Prop:=∀ ro lim c m s x s',ev ro lim c m s = .ok x s'→x.2.n=m.n
theorem SG {m m':Tm} {d:Option Nat} {v:Value} (e:m.put d v=some m'):m'.n=m.n:=by
 unfold Tm.put at e
 cases d with
 |none=>simp only[Option.some.injEq] at e;rw[←e]
 |some i=>
  simp only at e
  cases hb:Nat.blt i m.n with
  |false=>rw[hb] at e;simp at e
  |true=>rw[hb] at e;simp only[cond_true,Option.some.injEq] at e;rw[←e]
theorem SH {lim:Nat} {ops:List Oper} {o:Oper} {m m':Tm} {s s':HS} (e:kS P O ev lim ops o m s = .ok m' s'):m'.n=m.n:=by
 unfold kS at e
 obtain⟨v,s₁,_,e₂⟩:=bq e
 unfold iF at e₂
 cases hp:m.put o.dst v with
 |none=>rw[hp] at e₂;simp at e₂
 |some m₁=>rw[hp] at e₂;simp only[aH.ok.injEq] at e₂;rw[←e₂.1];exact SG hp
theorem LO {lim:Nat} {ops:List Oper}:∀ (r:List Oper) {m m':Tm} {s s':HS},gX P O ev lim ops r m s = .ok m' s'→m'.n=m.n
 | [],m,m',s,s',e=>by simp only[gX,aH.ok.injEq] at e;rw[e.1]
 |o::r,m,m',s,s',e=>by
  simp only[gX] at e
  obtain⟨v,s₁,e₁,e₂⟩:=bq e
  rw[LO r e₂,SH e₁]
theorem Fa {ops:List Oper}:∀ (r:List Oper) {m:Tm} {H:PT ak} {n:Nat} {x:Tm×List bD} {s':HS},gY P O ev ops r m H n = .ok x s'→x.1.n=m.n
 | [],m,H,n,x,s',e=>by simp only[gY,aH.ok.injEq] at e;rw[←e.1]
 |o::r,m,H,n,x,s',e=>by
  simp only[gY] at e
  obtain⟨v,s₁,e₁,e₂⟩:=bq e
  obtain⟨y,s₂,e₃,e₄⟩:=bq e₂
  simp only[aH.ok.injEq] at e₄
  rw[←e₄.1]
  show y.1.n=m.n
  rw[Fa r e₃,SH e₁]
theorem Nr {lim:Nat} {ops:List Oper} {m m':Tm} {s s':HS} (e:eD P O ev lim ops m s = .ok m' s'):m'.n=m.n:=by
 unfold eD at e
 cases hd:fO ops (aL (aO [] ops) ops.length) with
 |false=>rw[hd] at e;simp at e
 |true=>
  rw[hd] at e
  simp only[cond_true] at e
  obtain⟨x,s₁,e₁,e₂⟩:=bq e
  cases hf:cG x.2 (aL (aO [] ops) ops.length) with
  |false=>rw[hf] at e₂;simp at e₂
  |true=>rw[hf] at e₂;simp only[cond_true,aH.ok.injEq] at e₂;rw[←e₂.1];exact Fa ops e₁
theorem Ns (h:NE ev):NE (aY P O ev):=by
 intro ro lim c m s x s' e
 cases c with
 |skip=>simp only[aY,aH.ok.injEq] at e;rw[←e.1]
 |label l=>simp only[aY,aH.ok.injEq] at e;rw[←e.1]
 |exit id=>simp only[aY,aH.ok.injEq] at e;rw[←e.1]
 |ret=>simp only[aY,aH.ok.injEq] at e;rw[←e.1]
 |goto l=>simp[aY] at e
 |refuse w=>simp[aY] at e
 |scope c=>exact h _ _ _ _ _ _ _ e
 |region id ops draw=>
  simp only[aY] at e
  obtain⟨m',s₁,e₁,e₂⟩:=bq e
  simp only[aH.ok.injEq] at e₂
  rw[←e₂.1]
  cases draw with
  |true=>exact Nr e₁
  |false=>exact LO _ e₁
 |seq a b=>
  simp only[aY] at e
  obtain⟨y,s₁,e₁,e₂⟩:=bq e
  have:=h _ _ _ _ _ _ _ e₁
  cases hy:y.1 with
  |normal=>simp only[hy] at e₂;rw[h _ _ _ _ _ _ _ e₂,this]
  |exit i=>simp only[hy,aH.ok.injEq] at e₂;rw[←e₂.1,this]
  |ret=>simp only[hy,aH.ok.injEq] at e₂;rw[←e₂.1,this]
 |loop c=>
  simp only[aY] at e
  obtain⟨y,s₁,e₁,e₂⟩:=bq e
  have:=h _ _ _ _ _ _ _ e₁
  cases hy:y.1 with
  |normal=>simp only[hy] at e₂;rw[h _ _ _ _ _ _ _ e₂,this]
  |exit i=>simp only[hy,aH.ok.injEq] at e₂;rw[←e₂.1,this]
  |ret=>simp only[hy,aH.ok.injEq] at e₂;rw[←e₂.1,this]
 |cond c a b=>
  simp only[aY] at e
  cases hg:aX c with
  |false=>rw[hg] at e;simp at e
  |true=>
   rw[hg] at e
   simp only[cond_true] at e
   generalize m.eval c=z at e
   cases z with
   |bool t=>cases t<;>exact h _ _ _ _ _ _ _ e
   | _=>simp at e
 |block id c=>
  simp only[aY] at e
  obtain⟨y,s₁,e₁,e₂⟩:=bq e
  have:=h _ _ _ _ _ _ _ e₁
  cases hy:y.1 with
  |normal=>simp only[hy,aH.ok.injEq] at e₂;rw[←e₂.1,this]
  |exit i=>simp only[hy,aH.ok.injEq] at e₂;rw[←e₂.1];exact this
  |ret=>simp only[hy,aH.ok.injEq] at e₂;rw[←e₂.1,this]
 |rangeFunc g ps as bd=>
  simp only[aY] at e
  unfold eE at e
  cases hg:aX g with
  |false=>rw[hg] at e;simp at e
  |true=>
   rw[hg] at e
   simp only[cond_true] at e
   obtain⟨_,_,_,e⟩:=bq e
   obtain⟨_,_,_,e⟩:=bq e
   obtain⟨_,_,_,e⟩:=bq e
   obtain⟨_,_,_,e⟩:=bq e
   simp only[aH.ok.injEq] at e
   rw[←e.1]
theorem Fb:∀ k,NE (jW P O k)
 |0=>fun ro lim c m s x s' e=>by
  have e:(aH.fail "fuel":aH (aV×Tm)) = .ok x s':=e
  simp at e
 |k+1=>Ns (Fb k)
end size
section rules
variable {z:Zx} {K:List KF} {m:Tm} {h:PT ak} {n:Nat} {R:aV→Tm→PT ak→Nat→Prop}
theorem Fc {c:Code} {k:Nat} {ro:Option Nat} {x:aV×Tm} {s:HS} (e:jW z.P z.O k ro 0 c m (S0 h n) = .ok x s):s=S0 s.heap s.next:=E_ k ro c m h n x s e
theorem Jq:Ev z .skip m h n R↔m.n=z.N∧R .normal m h n:=by
 refine and_congr_right fun hm=>⟨?_,fun r=>⟨1,(.normal,m),h,n,rfl,r⟩⟩
 rintro ⟨k,x,h',n',e,r⟩
 cases k with
 |zero=>have e:(aH.fail "fuel":aH (aV×Tm)) = .ok x (S0 h' n'):=e;simp at e
 |succ k=>have e:(aH.ok (aV.normal,m) (S0 h n):aH (aV×Tm)) = .ok x (S0 h' n'):=e;simp only[S0,aH.ok.injEq,HS.mk.injEq] at e;obtain⟨rfl,rfl,rfl,_⟩:=e;exact r
theorem Fe {l:Nat}:Ev z (.label l) m h n R↔m.n=z.N∧R .normal m h n:=by
 refine and_congr_right fun hm=>⟨?_,fun r=>⟨1,(.normal,m),h,n,rfl,r⟩⟩
 rintro ⟨k,x,h',n',e,r⟩
 cases k with
 |zero=>have e:(aH.fail "fuel":aH (aV×Tm)) = .ok x (S0 h' n'):=e;simp at e
 |succ k=>have e:(aH.ok (aV.normal,m) (S0 h n):aH (aV×Tm)) = .ok x (S0 h' n'):=e;simp only[S0,aH.ok.injEq,HS.mk.injEq] at e;obtain⟨rfl,rfl,rfl,_⟩:=e;exact r
theorem Jr {i:Nat}:Ev z (.exit i) m h n R↔m.n=z.N∧R (.exit i) m h n:=by
 refine and_congr_right fun hm=>⟨?_,fun r=>⟨1,(.exit i,m),h,n,rfl,r⟩⟩
 rintro ⟨k,x,h',n',e,r⟩
 cases k with
 |zero=>have e:(aH.fail "fuel":aH (aV×Tm)) = .ok x (S0 h' n'):=e;simp at e
 |succ k=>have e:(aH.ok (aV.exit i,m) (S0 h n):aH (aV×Tm)) = .ok x (S0 h' n'):=e;simp only[S0,aH.ok.injEq,HS.mk.injEq] at e;obtain⟨rfl,rfl,rfl,_⟩:=e;exact r
theorem Nt:Ev z .ret m h n R↔m.n=z.N∧R .ret m h n:=by
 refine and_congr_right fun hm=>⟨?_,fun r=>⟨1,(.ret,m),h,n,rfl,r⟩⟩
 rintro ⟨k,x,h',n',e,r⟩
 cases k with
 |zero=>have e:(aH.fail "fuel":aH (aV×Tm)) = .ok x (S0 h' n'):=e;simp at e
 |succ k=>have e:(aH.ok (aV.ret,m) (S0 h n):aH (aV×Tm)) = .ok x (S0 h' n'):=e;simp only[S0,aH.ok.injEq,HS.mk.injEq] at e;obtain⟨rfl,rfl,rfl,_⟩:=e;exact r
theorem Ff {c:Code}:Ev z (.scope c) m h n R↔Ev z c m h n R:=by
 refine and_congr_right fun hm=>⟨?_,?_⟩
 ·rintro ⟨k,x,h',n',e,r⟩
  cases k with
  |zero=>have e:(aH.fail "fuel":aH (aV×Tm)) = .ok x (S0 h' n'):=e;simp at e
  |succ k=>exact⟨k,x,h',n',e,r⟩
 ·rintro ⟨k,x,h',n',e,r⟩
  exact⟨k+1,x,h',n',e,r⟩
theorem Nu {a b:Code}:Ev z (.seq a b) m h n R↔Ev z a m h n (fun e m h n=>match e with | .normal=>Ev z b m h n R | _=>R e m h n):=by
 refine and_congr_right fun hm=>⟨?_,?_⟩
 ·rintro ⟨k,x,h',n',e,r⟩
  cases k with
  |zero=>have e:(aH.fail "fuel":aH (aV×Tm)) = .ok x (S0 h' n'):=e;simp at e
  |succ k=>
   rw[cC] at e
   simp only[aY] at e
   obtain⟨y,s₁,e₁,e₂⟩:=bq e
   have hs:=Fc e₁
   refine⟨k,y,s₁.heap,s₁.next,hs ▸ e₁,?_⟩
   cases hy:y.1 with
   |normal=>simp only[hy] at e₂ ⊢;exact⟨(Fb k _ _ _ _ _ _ _ e₁).trans hm,k,x,h',n',hs ▸ e₂,r⟩
   |exit i=>simp only[hy,aH.ok.injEq] at e₂ ⊢;obtain⟨rfl,rfl⟩:=e₂;rw[hy] at r;exact r
   |ret=>simp only[hy,aH.ok.injEq] at e₂ ⊢;obtain⟨rfl,rfl⟩:=e₂;rw[hy] at r;exact r
 ·rintro ⟨k,y,h₁,n₁,e₁,r⟩
  cases hy:y.1 with
  |normal=>
   simp only[hy] at r
   obtain⟨_,k₂,x,h',n',e₂,r⟩:=r
   refine⟨max k k₂+1,x,h',n',?_,r⟩
   rw[cC]
   simp only[aY]
   rw[ia (Nat.le_max_left k k₂) _ _ _ _ _ _ _ e₁,aM]
   simp only[hy]
   exact ia (Nat.le_max_right k k₂) _ _ _ _ _ _ _ e₂
  |exit i=>
   simp only[hy] at r
   refine⟨k+1,y,h₁,n₁,?_,by rw[hy];exact r⟩
   rw[cC];simp only[aY];rw[e₁,aM];simp only[hy]
  |ret=>
   simp only[hy] at r
   refine⟨k+1,y,h₁,n₁,?_,by rw[hy];exact r⟩
   rw[cC];simp only[aY];rw[e₁,aM];simp only[hy]
theorem Js {c:Code}:Ev z (.loop c) m h n R↔Ev z c m h n (fun e m h n=>match e with | .normal=>Ev z (.loop c) m h n R | _=>R e m h n):=by
 refine and_congr_right fun hm=>⟨?_,?_⟩
 ·rintro ⟨k,x,h',n',e,r⟩
  cases k with
  |zero=>have e:(aH.fail "fuel":aH (aV×Tm)) = .ok x (S0 h' n'):=e;simp at e
  |succ k=>
   rw[cC] at e
   simp only[aY] at e
   obtain⟨y,s₁,e₁,e₂⟩:=bq e
   have hs:=Fc e₁
   refine⟨k,y,s₁.heap,s₁.next,hs ▸ e₁,?_⟩
   cases hy:y.1 with
   |normal=>simp only[hy] at e₂ ⊢;exact⟨(Fb k _ _ _ _ _ _ _ e₁).trans hm,k,x,h',n',hs ▸ e₂,r⟩
   |exit i=>simp only[hy,aH.ok.injEq] at e₂ ⊢;obtain⟨rfl,rfl⟩:=e₂;rw[hy] at r;exact r
   |ret=>simp only[hy,aH.ok.injEq] at e₂ ⊢;obtain⟨rfl,rfl⟩:=e₂;rw[hy] at r;exact r
 ·rintro ⟨k,y,h₁,n₁,e₁,r⟩
  cases hy:y.1 with
  |normal=>
   simp only[hy] at r
   obtain⟨_,k₂,x,h',n',e₂,r⟩:=r
   refine⟨max k k₂+1,x,h',n',?_,r⟩
   rw[cC]
   simp only[aY]
   rw[ia (Nat.le_max_left k k₂) _ _ _ _ _ _ _ e₁,aM]
   simp only[hy]
   exact ia (Nat.le_max_right k k₂) _ _ _ _ _ _ _ e₂
  |exit i=>
   simp only[hy] at r
   refine⟨k+1,y,h₁,n₁,?_,by rw[hy];exact r⟩
   rw[cC];simp only[aY];rw[e₁,aM];simp only[hy]
  |ret=>
   simp only[hy] at r
   refine⟨k+1,y,h₁,n₁,?_,by rw[hy];exact r⟩
   rw[cC];simp only[aY];rw[e₁,aM];simp only[hy]
theorem Fg {id:Nat} {c:Code}:Ev z (.block id c) m h n R↔Ev z c m h n (fun e m h n=>match e with | .exit i=>R (cond (Nat.beq i id) .normal (.exit i)) m h n | _=>R e m h n):=by
 refine and_congr_right fun hm=>⟨?_,?_⟩
 ·rintro ⟨k,x,h',n',e,r⟩
  cases k with
  |zero=>have e:(aH.fail "fuel":aH (aV×Tm)) = .ok x (S0 h' n'):=e;simp at e
  |succ k=>
   rw[cC] at e
   simp only[aY] at e
   obtain⟨y,s₁,e₁,e₂⟩:=bq e
   have hs:=Fc e₁
   refine⟨k,y,s₁.heap,s₁.next,hs ▸ e₁,?_⟩
   cases hy:y.1 with
   |normal=>simp only[hy,aH.ok.injEq] at e₂ ⊢;obtain⟨rfl,rfl⟩:=e₂;rw[hy] at r;exact r
   |exit i=>simp only[hy,aH.ok.injEq] at e₂ ⊢;obtain⟨rfl,rfl⟩:=e₂;exact r
   |ret=>simp only[hy,aH.ok.injEq] at e₂ ⊢;obtain⟨rfl,rfl⟩:=e₂;rw[hy] at r;exact r
 ·rintro ⟨k,y,h₁,n₁,e₁,r⟩
  cases hy:y.1 with
  |normal=>
   simp only[hy] at r
   refine⟨k+1,y,h₁,n₁,?_,by rw[hy];exact r⟩
   rw[cC];simp only[aY];rw[e₁,aM];simp only[hy]
  |exit i=>
   simp only[hy] at r
   refine⟨k+1,(cond (Nat.beq i id) .normal (.exit i),y.2),h₁,n₁,?_,r⟩
   rw[cC];simp only[aY];rw[e₁,aM];simp only[hy]
  |ret=>
   simp only[hy] at r
   refine⟨k+1,y,h₁,n₁,?_,by rw[hy];exact r⟩
   rw[cC];simp only[aY];rw[e₁,aM];simp only[hy]
theorem Jt {c:Operand} {a b:Code}:Ev z (.cond c a b) m h n R↔aX c=true∧∃ t,m.eval c = .bool t∧Ev z (cond t a b) m h n R:=by
 constructor
 ·rintro ⟨hm,k,x,h',n',e,r⟩
  cases k with
  |zero=>have e:(aH.fail "fuel":aH (aV×Tm)) = .ok x (S0 h' n'):=e;simp at e
  |succ k=>
   rw[cC] at e
   simp only[aY] at e
   cases hg:aX c with
   |false=>rw[hg] at e;simp at e
   |true=>
    rw[hg] at e
    simp only[cond_true] at e
    refine⟨rfl,?_⟩
    generalize m.eval c=v at e ⊢
    cases v with
    |bool t=>cases t<;>exact⟨_,rfl,hm,k,x,h',n',e,r⟩
    | _=>simp at e
 ·rintro ⟨hg,t,ht,hm,k,x,h',n',e,r⟩
  refine⟨hm,k+1,x,h',n',?_,r⟩
  rw[cC]
  simp only[aY,hg,cond_true,ht]
  cases t<;>exact e
theorem Ju {a b:Code}:fJ z (.seq a b) K m h n↔fJ z a (.seq b::K) m h n:=by
 unfold fJ
 rw[Nu]
 refine⟨Ev.mono fun e m h n r=>?_,Ev.mono fun e m h n r=>?_⟩<;>cases e<;>exact r
theorem Dc {id:Nat} {c:Code}:fJ z (.block id c) K m h n↔fJ z c (.block id::K) m h n:=by
 unfold fJ
 rw[Fg]
 refine⟨Ev.mono fun e m h n r=>?_,Ev.mono fun e m h n r=>?_⟩<;>cases e<;>exact r
theorem bX {c:Code}:fJ z (.loop c) K m h n↔fJ z c (.loop c::K) m h n:=by
 unfold fJ
 rw[Js]
 refine⟨Ev.mono fun e m h n r=>?_,Ev.mono fun e m h n r=>?_⟩<;>cases e<;>exact r
theorem Dd {c:Code}:fJ z (.scope c) K m h n↔fJ z c K m h n:=Ff
theorem vV:∀ {K:List KF} {e:aV},Rs z K e m h n→m.n=z.N
 | [],e,r=>r.1
 | .seq c::K,e,r=>by cases e<;>first |exact r.1 |exact vV (K:=K) r
 | .block id::K,e,r=>by cases e<;>exact vV (K:=K) r
 | .loop c::K,e,r=>by cases e<;>first |exact r.1 |exact vV (K:=K) r
theorem Fh:fJ z .skip K m h n↔Rs z K .normal m h n:=Jq.trans ⟨fun r=>r.2,fun r=>⟨vV r,r⟩⟩
theorem De {l:Nat}:fJ z (.label l) K m h n↔Rs z K .normal m h n:=Fe.trans ⟨fun r=>r.2,fun r=>⟨vV r,r⟩⟩
theorem Fi {i:Nat}:fJ z (.exit i) K m h n↔Rs z K (.exit i) m h n:=Jr.trans ⟨fun r=>r.2,fun r=>⟨vV r,r⟩⟩
theorem Jv:fJ z .ret K m h n↔Rs z K .ret m h n:=Nt.trans ⟨fun r=>r.2,fun r=>⟨vV r,r⟩⟩
theorem Nv {c:Code}:Rs z (.seq c::K) .normal m h n↔fJ z c K m h n:=Iff.rfl
theorem yg {c:Code} {i:Nat}:Rs z (.seq c::K) (.exit i) m h n↔Rs z K (.exit i) m h n:=Iff.rfl
theorem AB {c:Code}:Rs z (.seq c::K) .ret m h n↔Rs z K .ret m h n:=Iff.rfl
theorem Fj {id:Nat}:Rs z (.block id::K) .normal m h n↔Rs z K .normal m h n:=Iff.rfl
theorem vW {id:Nat}:Rs z (.block id::K) .ret m h n↔Rs z K .ret m h n:=Iff.rfl
theorem uo {id i:Nat}:Rs z (.block id::K) (.exit i) m h n↔Rs z K (cond (Nat.beq i id) .normal (.exit i)) m h n:=Iff.rfl
theorem Jw {c:Code}:Rs z (.loop c::K) .normal m h n↔fJ z (.loop c) K m h n:=Iff.rfl
theorem vX {c:Code} {i:Nat}:Rs z (.loop c::K) (.exit i) m h n↔Rs z K (.exit i) m h n:=Iff.rfl
theorem yh {c:Code}:Rs z (.loop c::K) .ret m h n↔Rs z K .ret m h n:=Iff.rfl
theorem Nw {e:aV}:Rs z [] e m h n↔m.n=z.N∧z.Q e m h n:=Iff.rfl
def yj (z:Zx) (v:Value) (a b:Code) (K:List KF) (m:Tm) (h:PT ak) (n:Nat):Prop:=∃ t,v = .bool t∧fJ z (cond t a b) K m h n
theorem Fk {c:Operand} {a b:Code}:fJ z (.cond c a b) K m h n↔aX c=true∧yj z (m.eval c) a b K m h n:=Jt
theorem sL {a b:Code}:yj z (.bool true) a b K m h n↔fJ z a K m h n:=⟨fun ⟨t,e,r⟩=>by cases e;exact r,fun r=>⟨true,rfl,r⟩⟩
theorem pJ {a b:Code}:yj z (.bool false) a b K m h n↔fJ z b K m h n:=⟨fun ⟨t,e,r⟩=>by cases e;exact r,fun r=>⟨false,rfl,r⟩⟩
theorem ym {a b:Code} {t:Bool} (h1:t=true→fJ z a K m h n) (h2:t=false→fJ z b K m h n):yj z (.bool t) a b K m h n:=by
 refine⟨t,rfl,?_⟩;cases t<;>first |exact h1 rfl |exact h2 rfl
theorem Jx {a b:Code} {p:Prop} [Decidable p] (h1:p→fJ z a K m h n) (h2: ¬ p→fJ z b K m h n):yj z (.bool (decide p)) a b K m h n:=
 ym (fun e=>h1 (of_decide_eq_true e)) fun e=>h2 (of_decide_eq_false e)
theorem AE {id:Nat} {ops:Array Oper}:fJ z (.region id ops false) K m h n↔Iw z ops.toList ops.toList K m h n:=by
 refine and_congr_right fun hm=>⟨?_,?_⟩
 ·rintro ⟨k,x,h',n',e,r⟩
  cases k with
  |zero=>have e:(aH.fail "fuel":aH (aV×Tm)) = .ok x (S0 h' n'):=e;simp at e
  |succ k=>
   rw[cC] at e
   simp only[aY,cond_false] at e
   obtain⟨m',s₁,e₁,e₂⟩:=bq e
   simp only[aH.ok.injEq] at e₂
   obtain⟨rfl,rfl⟩:=e₂
   exact⟨k,m',h',n',e₁,r⟩
 ·rintro ⟨k,m',h',n',e,r⟩
  refine⟨k+1,(.normal,m'),h',n',?_,r⟩
  rw[cC]
  simp only[aY,cond_false,e,aM]
theorem Jy {ops:List Oper}:Iw z ops [] K m h n↔Rs z K .normal m h n:=by
 constructor
 ·rintro ⟨hm,k,m',h',n',e,r⟩
  simp only[gX,S0,aH.ok.injEq,HS.mk.injEq] at e
  obtain⟨rfl,rfl,rfl,_⟩:=e
  exact r
 ·intro r
  exact⟨vV r,0,m,h,n,rfl,r⟩
def jI (z:Zx) (w:Bool) (o:Oper) (ops r:List Oper) (K:List KF) (m:Tm) (h:PT ak) (n:Nat):Prop:=
 cond w (o.op.operands.toList.all aX=true∧jE z (jk z.P m.eval o) o.dst ops r K m h n) (jE z (.pure .skip) o.dst ops r K m h n)
theorem Fl {o:Oper} {ops r:List Oper}:Iw z ops (o::r) K m h n↔jI z (bJ ops m o) o ops r K m h n:=by
 unfold jI
 cases hw:bJ ops m o with
 |false=>
  simp only[cond_false]
  refine and_congr_right fun hm=>?_
  simp only[gX,kS,hw,cond_false,AP.run,aM,eC]
 |true=>
  simp only[cond_true]
  constructor
  ·rintro ⟨hm,k,m',h',n',e,r⟩
   simp only[gX,kS,hw,cond_true,iE] at e
   cases hf:o.op.operands.toList.all aX with
   |false=>rw[hf] at e;simp[bH] at e
   |true=>
    rw[hf] at e
    simp only[cond_true,eP] at e
    exact⟨rfl,hm,k,m',h',n',e,r⟩
  ·rintro ⟨hf,hm,k,m',h',n',e,r⟩
   refine⟨hm,k,m',h',n',?_,r⟩
   simp only[gX,kS,hw,cond_true,iE,hf,eP]
   exact e
theorem Fm {o:Oper} {ops r:List Oper}:jI z true o ops r K m h n↔o.op.operands.toList.all aX=true∧jE z (jk z.P m.eval o) o.dst ops r K m h n:=Iff.rfl
theorem Dg {o:Oper} {ops r:List Oper}:jI z false o ops r K m h n↔jE z (.pure .skip) o.dst ops r K m h n:=Iff.rfl
def up (m:Tm) (i:Nat) (v:Value):Tm:={ m with t:=m.t.set i (some v) }
variable {d:Option Nat} {ops r:List Oper}
theorem yq {i:Nat} {v:Value}:(up m i v).get i=v:=by simp[up,Tm.get,PT.gl]
theorem Dh {i j:Nat} {v:Value} (hij:i≠j):(up m i v).get j=m.get j:=by simp[up,Tm.get,PT.bO _ _ hij]
theorem Nz {i:Nat} {v:Value}:(up m i v).n=m.n:=rfl
theorem NA {i:Nat} {v:Value}:(up m i v).eS=m.eS:=rfl
theorem uN {i:Nat} {v:Value}:jE z (.pure (.value v)) (some i) ops r K m h n↔i<z.N∧Iw z ops r K (up m i v) h n:=by
 unfold jE Iw
 simp only[AP.run,aM,eC,iF,Tm.put,Nz]
 constructor
 ·rintro ⟨hm,k,m',h',n',e,q⟩
  cases hb:Nat.blt i m.n with
  |false=>rw[hb] at e;simp[bH] at e
  |true=>
   rw[hb] at e
   have:=Nat.le_of_ble_eq_true hb
   exact⟨by omega,hm,k,m',h',n',e,q⟩
 ·rintro ⟨hi,hm,k,m',h',n',e,q⟩
  have hb:Nat.blt i m.n=true:=Nat.ble_eq_true_of_le (by omega)
  exact⟨hm,k,m',h',n',by rw[hb];exact e,q⟩
theorem AF {v:Value}:jE z (.pure (.value v)) none ops r K m h n↔Iw z ops r K m h n:=Iff.rfl
theorem Fo {i:Nat}:jE z (.pure .skip) (some i) ops r K m h n↔i<z.N∧Iw z ops r K (up m i cZ) h n:=uN (v:=cZ)
theorem Di:jE z (.pure .skip) none ops r K m h n↔Iw z ops r K m h n:=Iff.rfl
theorem Fp {w:String}:jE z (.fail w) d ops r K m h n↔False:=by
 constructor
 ·rintro ⟨_,k,m',h',n',e,_⟩;simp[AP.run,bH] at e
 ·exact False.elim
def SI (z:Zx) (b:Option ak) (f:ak→AP aD) (d:Option Nat) (ops r:List Oper) (K:List KF) (m:Tm) (h:PT ak) (n:Nat):Prop:=
 match b with
 |some b=>jE z (f b) d ops r K m h n
 |none=>False
theorem vY {id:Nat} {f:ak→AP aD}:jE z (.get id f) d ops r K m h n↔SI z (h.get id) f d ops r K m h n:=by
 unfold SI jE
 simp only[AP.run,show (S0 h n).heap=h from rfl]
 cases hb:h.get id with
 |none=>simp[bH]
 |some b=>simp only[show Nat.blt id 0=false from rfl,cond_false]
theorem sM {b:ak} {f:ak→AP aD}:SI z (some b) f d ops r K m h n↔jE z (f b) d ops r K m h n:=Iff.rfl
def NB (z:Zx) (o:Option ak) (id:Nat) (b:Option ak) (p:AP aD) (d:Option Nat) (ops r:List Oper) (K:List KF) (m:Tm) (h:PT ak) (n:Nat):Prop:=
 match o with
 |some _=>jE z p d ops r K m (h.set id b) n
 |none=>False
theorem Jz {id:Nat} {b:ak} {p:AP aD}:jE z (.set id b p) d ops r K m h n↔NB z (h.get id) id (some b) p d ops r K m h n:=by
 unfold NB jE
 simp only[AP.run,show (S0 h n).heap=h from rfl]
 cases hb:h.get id with
 |none=>simp[bH]
 |some c=>simp only[show Nat.blt id 0=false from rfl,cond_false];exact Iff.rfl
theorem Fq {id:Nat} {p:AP aD}:jE z (.kill id p) d ops r K m h n↔NB z (h.get id) id none p d ops r K m h n:=by
 unfold NB jE
 simp only[AP.run,show (S0 h n).heap=h from rfl]
 cases hb:h.get id with
 |none=>simp[bH]
 |some c=>simp only[show Nat.blt id 0=false from rfl,cond_false];exact Iff.rfl
theorem Ft {c:ak} {id:Nat} {b:Option ak} {p:AP aD}:NB z (some c) id b p d ops r K m h n↔jE z p d ops r K m (h.set id b) n:=Iff.rfl
theorem JA {b:ak} {f:Nat→AP aD}:jE z (.new b f) d ops r K m h n↔jE z (f n) d ops r K m (h.set n (some b)) (n+1):=Iff.rfl
def NC (z:Zx) (s:Option (AP Value)) (f:FuncId) (args:List Value) (d:Option Nat) (ops r:List Oper) (K:List KF) (m:Tm) (h:PT ak) (n:Nat):Prop:=
 match s with
 |some p=>jE z (p.bind fun v => .pure (.value v)) d ops r K m h n
 |none=>jE z (.pure (.enter f args)) d ops r K m h n
theorem run_bind {α β:Type} {lim:Nat}:∀ (p:AP α) (f:α→AP β) (s:HS),(p.bind f).run lim s=bH (p.run lim s) fun a s=>(f a).run lim s
 | .pure a,f,s=>rfl
 | .fail w,f,s=>rfl
 | .get id k,f,s=>by
  simp only[AP.bind,AP.run]
  cases s.heap.get id with
  |none=>rfl
  |some b=>exact run_bind (k b) f _
 | .set id b k,f,s=>by
  simp only[AP.bind,AP.run]
  cases s.heap.get id with
  |none=>rfl
  |some _=>exact run_bind k f _
 | .kill id k,f,s=>by
  simp only[AP.bind,AP.run]
  cases s.heap.get id with
  |none=>rfl
  |some _=>exact run_bind k f _
 | .new b k,f,s=>by
  simp only[AP.bind,AP.run]
  exact run_bind (k s.next) f _
theorem Dj {f:FuncId} {args:List Value}:jE z (.pure (.enter f args)) d ops r K m h n↔NC z (z.O f args) f args d ops r K m h n:=by
 unfold NC
 cases hO:z.O f args with
 |none=>exact Iff.rfl
 |some p=>
  simp only[jE,run_bind,eP,AP.run,aM,eC,eB,hO]
theorem Fu {p:AP Value} {f:FuncId} {args:List Value}:NC z (some p) f args d ops r K m h n↔jE z (p.bind fun v => .pure (.value v)) d ops r K m h n:=Iff.rfl
end rules
end Go.Am
