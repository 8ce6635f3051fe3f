/-
  The abstract machine, for proofs with variables: the rules.
-/
import Derived.Test.YtfhmopghjoeamaaGreatAmX2
set_option linter.unusedSimpArgs false
set_option linter.unusedVariables false
namespace Go.Am
section size
variable {P:Program} {O:Over} {ev:jd}
def NE (ev:jd):Prop:=∀ ro lim c m s x s',ev ro lim c m s = .ok x s'→x.2.n=m.n
theorem MW {m m':Tm} {d:Option Nat} {v:Value} (e:m.put d v=some m'):m'.n=m.n:=by
 unfold Tm.put at e
 cases d with
 |none=>simp only[Option.some.injEq] at e;rw[←e]
 |some i=>
  simp only at e
  cases hb:Nat.blt i m.n with
  |false=>rw[hb] at e;simp at e
  |true=>rw[hb] at e;simp only[cond_true,Option.some.injEq] at e;rw[←e]
theorem MX {lim:Nat} {ops:List Oper} {o:Oper} {m m':Tm} {s s':HS} (e:lV P O ev lim ops o m s = .ok m' s'):m'.n=m.n:=by
 unfold lV at e
 obtain⟨v,s₁,_,e₂⟩:=aX e
 unfold iK at e₂
 cases hp:m.put o.dst v with
 |none=>rw[hp] at e₂;simp at e₂
 |some m₁=>rw[hp] at e₂;simp only[aW.ok.injEq] at e₂;rw[←e₂.1];exact MW hp
theorem G_ {lim:Nat} {ops:List Oper}:∀ (r:List Oper) {m m':Tm} {s s':HS},gU P O ev lim ops r m s = .ok m' s'→m'.n=m.n
 | [],m,m',s,s',e=>by simp only[gU,aW.ok.injEq] at e;rw[e.1]
 |o::r,m,m',s,s',e=>by
  simp only[gU] at e
  obtain⟨v,s₁,e₁,e₂⟩:=aX e
  rw[G_ r e₂,MX e₁]
theorem BU {ops:List Oper}:∀ (r:List Oper) {m:Tm} {H:PT aj} {n:Nat} {x:Tm×List bI} {s':HS},gV P O ev ops r m H n = .ok x s'→x.1.n=m.n
 | [],m,H,n,x,s',e=>by simp only[gV,aW.ok.injEq] at e;rw[←e.1]
 |o::r,m,H,n,x,s',e=>by
  simp only[gV] at e
  obtain⟨v,s₁,e₁,e₂⟩:=aX e
  obtain⟨y,s₂,e₃,e₄⟩:=aX e₂
  simp only[aW.ok.injEq] at e₄
  rw[←e₄.1]
  show y.1.n=m.n
  rw[BU r e₃,MX e₁]
theorem IQ {lim:Nat} {ops:List Oper} {m m':Tm} {s s':HS} (e:eE P O ev lim ops m s = .ok m' s'):m'.n=m.n:=by
 unfold eE at e
 cases hd:gK ops (aP (aN [] ops) ops.length) with
 |false=>rw[hd] at e;simp at e
 |true=>
  rw[hd] at e
  simp only[cond_true] at e
  obtain⟨x,s₁,e₁,e₂⟩:=aX e
  cases hf:cQ x.2 (aP (aN [] ops) ops.length) with
  |false=>rw[hf] at e₂;simp at e₂
  |true=>rw[hf] at e₂;simp only[cond_true,aW.ok.injEq] at e₂;rw[←e₂.1];exact BU ops e₁
theorem IU (h:NE ev):NE (bh P O ev):=by
 intro ro lim c m s x s' e
 cases c with
 |skip=>simp only[bh,aW.ok.injEq] at e;rw[←e.1]
 |label l=>simp only[bh,aW.ok.injEq] at e;rw[←e.1]
 |exit id=>simp only[bh,aW.ok.injEq] at e;rw[←e.1]
 |ret=>simp only[bh,aW.ok.injEq] at e;rw[←e.1]
 |goto l=>simp[bh] at e
 |refuse w=>simp[bh] at e
 |scope c=>exact h _ _ _ _ _ _ _ e
 |region id ops draw=>
  simp only[bh] at e
  obtain⟨m',s₁,e₁,e₂⟩:=aX e
  simp only[aW.ok.injEq] at e₂
  rw[←e₂.1]
  cases draw with
  |true=>exact IQ e₁
  |false=>exact G_ _ e₁
 |seq a b=>
  simp only[bh] at e
  obtain⟨y,s₁,e₁,e₂⟩:=aX e
  have:=h _ _ _ _ _ _ _ e₁
  cases hy:y.1 with
  |normal=>simp only[hy] at e₂;rw[h _ _ _ _ _ _ _ e₂,this]
  |exit i=>simp only[hy,aW.ok.injEq] at e₂;rw[←e₂.1,this]
  |ret=>simp only[hy,aW.ok.injEq] at e₂;rw[←e₂.1,this]
 |loop c=>
  simp only[bh] at e
  obtain⟨y,s₁,e₁,e₂⟩:=aX e
  have:=h _ _ _ _ _ _ _ e₁
  cases hy:y.1 with
  |normal=>simp only[hy] at e₂;rw[h _ _ _ _ _ _ _ e₂,this]
  |exit i=>simp only[hy,aW.ok.injEq] at e₂;rw[←e₂.1,this]
  |ret=>simp only[hy,aW.ok.injEq] at e₂;rw[←e₂.1,this]
 |cond c a b=>
  simp only[bh] at e
  cases hg:a_ c with
  |false=>rw[hg] at e;simp at e
  |true=>
   rw[hg] at e
   simp only[cond_true] at e
   generalize m.eval c=z at e
   cases z with
   |bool t=>cases t<;>exact h _ _ _ _ _ _ _ e
   | _=>simp at e
 |block id c=>
  simp only[bh] at e
  obtain⟨y,s₁,e₁,e₂⟩:=aX e
  have:=h _ _ _ _ _ _ _ e₁
  cases hy:y.1 with
  |normal=>simp only[hy,aW.ok.injEq] at e₂;rw[←e₂.1,this]
  |exit i=>simp only[hy,aW.ok.injEq] at e₂;rw[←e₂.1];exact this
  |ret=>simp only[hy,aW.ok.injEq] at e₂;rw[←e₂.1,this]
 |rangeFunc g ps as bd=>
  simp only[bh] at e
  unfold eF at e
  cases hg:a_ g with
  |false=>rw[hg] at e;simp at e
  |true=>
   rw[hg] at e
   simp only[cond_true] at e
   obtain⟨_,_,_,e⟩:=aX e
   obtain⟨_,_,_,e⟩:=aX e
   obtain⟨_,_,_,e⟩:=aX e
   obtain⟨_,_,_,e⟩:=aX e
   simp only[aW.ok.injEq] at e
   rw[←e.1]
theorem BV:∀ k,NE (jL P O k)
 |0=>fun ro lim c m s x s' e=>by
  have e:(aW.fail "fuel":aW (bw×Tm)) = .ok x s':=e
  simp at e
 |k+1=>IU (BV k)
end size
section rules
variable {z:Zx} {K:List KF} {m:Tm} {h:PT aj} {n:Nat} {R:bw→Tm→PT aj→Nat→Prop}
theorem BW {c:Code} {k:Nat} {ro:Option Nat} {x:bw×Tm} {s:HS} (e:jL z.P z.O k ro 0 c m (S0 h n) = .ok x s):s=S0 s.heap s.next:=BT k ro c m h n x s e
theorem EY:Ev z .skip m h n R↔m.n=z.N∧R .normal m h n:=by
 refine and_congr_right fun hm=>⟨?_,fun r=>⟨1,(.normal,m),h,n,rfl,r⟩⟩
 rintro ⟨k,x,h',n',e,r⟩
 cases k with
 |zero=>have e:(aW.fail "fuel":aW (bw×Tm)) = .ok x (S0 h' n'):=e;simp at e
 |succ k=>have e:(aW.ok (bw.normal,m) (S0 h n):aW (bw×Tm)) = .ok x (S0 h' n'):=e;simp only[S0,aW.ok.injEq,HS.mk.injEq] at e;obtain⟨rfl,rfl,rfl,_⟩:=e;exact r
theorem BX {l:Nat}:Ev z (.label l) m h n R↔m.n=z.N∧R .normal m h n:=by
 refine and_congr_right fun hm=>⟨?_,fun r=>⟨1,(.normal,m),h,n,rfl,r⟩⟩
 rintro ⟨k,x,h',n',e,r⟩
 cases k with
 |zero=>have e:(aW.fail "fuel":aW (bw×Tm)) = .ok x (S0 h' n'):=e;simp at e
 |succ k=>have e:(aW.ok (bw.normal,m) (S0 h n):aW (bw×Tm)) = .ok x (S0 h' n'):=e;simp only[S0,aW.ok.injEq,HS.mk.injEq] at e;obtain⟨rfl,rfl,rfl,_⟩:=e;exact r
theorem EZ {i:Nat}:Ev z (.exit i) m h n R↔m.n=z.N∧R (.exit i) m h n:=by
 refine and_congr_right fun hm=>⟨?_,fun r=>⟨1,(.exit i,m),h,n,rfl,r⟩⟩
 rintro ⟨k,x,h',n',e,r⟩
 cases k with
 |zero=>have e:(aW.fail "fuel":aW (bw×Tm)) = .ok x (S0 h' n'):=e;simp at e
 |succ k=>have e:(aW.ok (bw.exit i,m) (S0 h n):aW (bw×Tm)) = .ok x (S0 h' n'):=e;simp only[S0,aW.ok.injEq,HS.mk.injEq] at e;obtain⟨rfl,rfl,rfl,_⟩:=e;exact r
theorem IV:Ev z .ret m h n R↔m.n=z.N∧R .ret m h n:=by
 refine and_congr_right fun hm=>⟨?_,fun r=>⟨1,(.ret,m),h,n,rfl,r⟩⟩
 rintro ⟨k,x,h',n',e,r⟩
 cases k with
 |zero=>have e:(aW.fail "fuel":aW (bw×Tm)) = .ok x (S0 h' n'):=e;simp at e
 |succ k=>have e:(aW.ok (bw.ret,m) (S0 h n):aW (bw×Tm)) = .ok x (S0 h' n'):=e;simp only[S0,aW.ok.injEq,HS.mk.injEq] at e;obtain⟨rfl,rfl,rfl,_⟩:=e;exact r
theorem BZ {c:Code}:Ev z (.scope c) m h n R↔Ev z c m h n R:=by
 refine and_congr_right fun hm=>⟨?_,?_⟩
 ·rintro ⟨k,x,h',n',e,r⟩
  cases k with
  |zero=>have e:(aW.fail "fuel":aW (bw×Tm)) = .ok x (S0 h' n'):=e;simp at e
  |succ k=>exact⟨k,x,h',n',e,r⟩
 ·rintro ⟨k,x,h',n',e,r⟩
  exact⟨k+1,x,h',n',e,r⟩
theorem IW {a b:Code}:Ev z (.seq a b) m h n R↔Ev z a m h n (fun e m h n=>match e with | .normal=>Ev z b m h n R | _=>R e m h n):=by
 refine and_congr_right fun hm=>⟨?_,?_⟩
 ·rintro ⟨k,x,h',n',e,r⟩
  cases k with
  |zero=>have e:(aW.fail "fuel":aW (bw×Tm)) = .ok x (S0 h' n'):=e;simp at e
  |succ k=>
   rw[bW] at e
   simp only[bh] at e
   obtain⟨y,s₁,e₁,e₂⟩:=aX e
   have hs:=BW e₁
   refine⟨k,y,s₁.heap,s₁.next,hs ▸ e₁,?_⟩
   cases hy:y.1 with
   |normal=>simp only[hy] at e₂ ⊢;exact⟨(BV k _ _ _ _ _ _ _ e₁).trans hm,k,x,h',n',hs ▸ e₂,r⟩
   |exit i=>simp only[hy,aW.ok.injEq] at e₂ ⊢;obtain⟨rfl,rfl⟩:=e₂;rw[hy] at r;exact r
   |ret=>simp only[hy,aW.ok.injEq] at e₂ ⊢;obtain⟨rfl,rfl⟩:=e₂;rw[hy] at r;exact r
 ·rintro ⟨k,y,h₁,n₁,e₁,r⟩
  cases hy:y.1 with
  |normal=>
   simp only[hy] at r
   obtain⟨_,k₂,x,h',n',e₂,r⟩:=r
   refine⟨max k k₂+1,x,h',n',?_,r⟩
   rw[bW]
   simp only[bh]
   rw[fI (Nat.le_max_left k k₂) _ _ _ _ _ _ _ e₁,aM]
   simp only[hy]
   exact fI (Nat.le_max_right k k₂) _ _ _ _ _ _ _ e₂
  |exit i=>
   simp only[hy] at r
   refine⟨k+1,y,h₁,n₁,?_,by rw[hy];exact r⟩
   rw[bW];simp only[bh];rw[e₁,aM];simp only[hy]
  |ret=>
   simp only[hy] at r
   refine⟨k+1,y,h₁,n₁,?_,by rw[hy];exact r⟩
   rw[bW];simp only[bh];rw[e₁,aM];simp only[hy]
theorem E0 {c:Code}:Ev z (.loop c) m h n R↔Ev z c m h n (fun e m h n=>match e with | .normal=>Ev z (.loop c) m h n R | _=>R e m h n):=by
 refine and_congr_right fun hm=>⟨?_,?_⟩
 ·rintro ⟨k,x,h',n',e,r⟩
  cases k with
  |zero=>have e:(aW.fail "fuel":aW (bw×Tm)) = .ok x (S0 h' n'):=e;simp at e
  |succ k=>
   rw[bW] at e
   simp only[bh] at e
   obtain⟨y,s₁,e₁,e₂⟩:=aX e
   have hs:=BW e₁
   refine⟨k,y,s₁.heap,s₁.next,hs ▸ e₁,?_⟩
   cases hy:y.1 with
   |normal=>simp only[hy] at e₂ ⊢;exact⟨(BV k _ _ _ _ _ _ _ e₁).trans hm,k,x,h',n',hs ▸ e₂,r⟩
   |exit i=>simp only[hy,aW.ok.injEq] at e₂ ⊢;obtain⟨rfl,rfl⟩:=e₂;rw[hy] at r;exact r
   |ret=>simp only[hy,aW.ok.injEq] at e₂ ⊢;obtain⟨rfl,rfl⟩:=e₂;rw[hy] at r;exact r
 ·rintro ⟨k,y,h₁,n₁,e₁,r⟩
  cases hy:y.1 with
  |normal=>
   simp only[hy] at r
   obtain⟨_,k₂,x,h',n',e₂,r⟩:=r
   refine⟨max k k₂+1,x,h',n',?_,r⟩
   rw[bW]
   simp only[bh]
   rw[fI (Nat.le_max_left k k₂) _ _ _ _ _ _ _ e₁,aM]
   simp only[hy]
   exact fI (Nat.le_max_right k k₂) _ _ _ _ _ _ _ e₂
  |exit i=>
   simp only[hy] at r
   refine⟨k+1,y,h₁,n₁,?_,by rw[hy];exact r⟩
   rw[bW];simp only[bh];rw[e₁,aM];simp only[hy]
  |ret=>
   simp only[hy] at r
   refine⟨k+1,y,h₁,n₁,?_,by rw[hy];exact r⟩
   rw[bW];simp only[bh];rw[e₁,aM];simp only[hy]
theorem B3 {id:Nat} {c:Code}:Ev z (.block id c) m h n R↔Ev z c m h n (fun e m h n=>match e with | .exit i=>R (cond (Nat.beq i id) .normal (.exit i)) m h n | _=>R e m h n):=by
 refine and_congr_right fun hm=>⟨?_,?_⟩
 ·rintro ⟨k,x,h',n',e,r⟩
  cases k with
  |zero=>have e:(aW.fail "fuel":aW (bw×Tm)) = .ok x (S0 h' n'):=e;simp at e
  |succ k=>
   rw[bW] at e
   simp only[bh] at e
   obtain⟨y,s₁,e₁,e₂⟩:=aX e
   have hs:=BW e₁
   refine⟨k,y,s₁.heap,s₁.next,hs ▸ e₁,?_⟩
   cases hy:y.1 with
   |normal=>simp only[hy,aW.ok.injEq] at e₂ ⊢;obtain⟨rfl,rfl⟩:=e₂;rw[hy] at r;exact r
   |exit i=>simp only[hy,aW.ok.injEq] at e₂ ⊢;obtain⟨rfl,rfl⟩:=e₂;exact r
   |ret=>simp only[hy,aW.ok.injEq] at e₂ ⊢;obtain⟨rfl,rfl⟩:=e₂;rw[hy] at r;exact r
 ·rintro ⟨k,y,h₁,n₁,e₁,r⟩
  cases hy:y.1 with
  |normal=>
   simp only[hy] at r
   refine⟨k+1,y,h₁,n₁,?_,by rw[hy];exact r⟩
   rw[bW];simp only[bh];rw[e₁,aM];simp only[hy]
  |exit i=>
   simp only[hy] at r
   refine⟨k+1,(cond (Nat.beq i id) .normal (.exit i),y.2),h₁,n₁,?_,r⟩
   rw[bW];simp only[bh];rw[e₁,aM];simp only[hy]
  |ret=>
   simp only[hy] at r
   refine⟨k+1,y,h₁,n₁,?_,by rw[hy];exact r⟩
   rw[bW];simp only[bh];rw[e₁,aM];simp only[hy]
theorem E1 {c:Operand} {a b:Code}:Ev z (.cond c a b) m h n R↔a_ c=true∧∃ t,m.eval c = .bool t∧Ev z (cond t a b) m h n R:=by
 constructor
 ·rintro ⟨hm,k,x,h',n',e,r⟩
  cases k with
  |zero=>have e:(aW.fail "fuel":aW (bw×Tm)) = .ok x (S0 h' n'):=e;simp at e
  |succ k=>
   rw[bW] at e
   simp only[bh] at e
   cases hg:a_ c with
   |false=>rw[hg] at e;simp at e
   |true=>
    rw[hg] at e
    simp only[cond_true] at e
    refine⟨rfl,?_⟩
    generalize m.eval c=v at e ⊢
    cases v with
    |bool t=>cases t<;>exact⟨_,rfl,hm,k,x,h',n',e,r⟩
    | _=>simp at e
 ·rintro ⟨hg,t,ht,hm,k,x,h',n',e,r⟩
  refine⟨hm,k+1,x,h',n',?_,r⟩
  rw[bW]
  simp only[bh,hg,cond_true,ht]
  cases t<;>exact e
theorem E2 {a b:Code}:ez z (.seq a b) K m h n↔ez z a (.seq b::K) m h n:=by
 unfold ez
 rw[IW]
 refine⟨Ev.mono fun e m h n r=>?_,Ev.mono fun e m h n r=>?_⟩<;>cases e<;>exact r
theorem zR {id:Nat} {c:Code}:ez z (.block id c) K m h n↔ez z c (.block id::K) m h n:=by
 unfold ez
 rw[B3]
 refine⟨Ev.mono fun e m h n r=>?_,Ev.mono fun e m h n r=>?_⟩<;>cases e<;>exact r
theorem ct {c:Code}:ez z (.loop c) K m h n↔ez z c (.loop c::K) m h n:=by
 unfold ez
 rw[E0]
 refine⟨Ev.mono fun e m h n r=>?_,Ev.mono fun e m h n r=>?_⟩<;>cases e<;>exact r
theorem zS {c:Code}:ez z (.scope c) K m h n↔ez z c K m h n:=BZ
theorem tF:∀ {K:List KF} {e:bw},Rs z K e m h n→m.n=z.N
 | [],e,r=>r.1
 | .seq c::K,e,r=>by cases e<;>first |exact r.1 |exact tF (K:=K) r
 | .block id::K,e,r=>by cases e<;>exact tF (K:=K) r
 | .loop c::K,e,r=>by cases e<;>first |exact r.1 |exact tF (K:=K) r
theorem B4:ez z .skip K m h n↔Rs z K .normal m h n:=EY.trans ⟨fun r=>r.2,fun r=>⟨tF r,r⟩⟩
theorem zT {l:Nat}:ez z (.label l) K m h n↔Rs z K .normal m h n:=BX.trans ⟨fun r=>r.2,fun r=>⟨tF r,r⟩⟩
theorem B7 {i:Nat}:ez z (.exit i) K m h n↔Rs z K (.exit i) m h n:=EZ.trans ⟨fun r=>r.2,fun r=>⟨tF r,r⟩⟩
theorem E3:ez z .ret K m h n↔Rs z K .ret m h n:=IV.trans ⟨fun r=>r.2,fun r=>⟨tF r,r⟩⟩
theorem IX {c:Code}:Rs z (.seq c::K) .normal m h n↔ez z c K m h n:=Iff.rfl
theorem u7 {c:Code} {i:Nat}:Rs z (.seq c::K) (.exit i) m h n↔Rs z K (.exit i) m h n:=Iff.rfl
theorem xF {c:Code}:Rs z (.seq c::K) .ret m h n↔Rs z K .ret m h n:=Iff.rfl
theorem B_ {id:Nat}:Rs z (.block id::K) .normal m h n↔Rs z K .normal m h n:=Iff.rfl
theorem tG {id:Nat}:Rs z (.block id::K) .ret m h n↔Rs z K .ret m h n:=Iff.rfl
theorem ru {id i:Nat}:Rs z (.block id::K) (.exit i) m h n↔Rs z K (cond (Nat.beq i id) .normal (.exit i)) m h n:=Iff.rfl
theorem E4 {c:Code}:Rs z (.loop c::K) .normal m h n↔ez z (.loop c) K m h n:=Iff.rfl
theorem tH {c:Code} {i:Nat}:Rs z (.loop c::K) (.exit i) m h n↔Rs z K (.exit i) m h n:=Iff.rfl
theorem u9 {c:Code}:Rs z (.loop c::K) .ret m h n↔Rs z K .ret m h n:=Iff.rfl
theorem IY {e:bw}:Rs z [] e m h n↔m.n=z.N∧z.Q e m h n:=Iff.rfl
def tI (z:Zx) (v:Value) (a b:Code) (K:List KF) (m:Tm) (h:PT aj) (n:Nat):Prop:=∃ t,v = .bool t∧ez z (cond t a b) K m h n
theorem Ca {c:Operand} {a b:Code}:ez z (.cond c a b) K m h n↔a_ c=true∧tI z (m.eval c) a b K m h n:=E1
theorem qo {a b:Code}:tI z (.bool true) a b K m h n↔ez z a K m h n:=⟨fun ⟨t,e,r⟩=>by cases e;exact r,fun r=>⟨true,rfl,r⟩⟩
theorem nK {a b:Code}:tI z (.bool false) a b K m h n↔ez z b K m h n:=⟨fun ⟨t,e,r⟩=>by cases e;exact r,fun r=>⟨false,rfl,r⟩⟩
theorem u_ {a b:Code} {t:Bool} (h1:t=true→ez z a K m h n) (h2:t=false→ez z b K m h n):tI z (.bool t) a b K m h n:=by
 refine⟨t,rfl,?_⟩;cases t<;>first |exact h1 rfl |exact h2 rfl
theorem E5 {a b:Code} {p:Prop} [Decidable p] (h1:p→ez z a K m h n) (h2: ¬ p→ez z b K m h n):tI z (.bool (decide p)) a b K m h n:=
 u_ (fun e=>h1 (of_decide_eq_true e)) fun e=>h2 (of_decide_eq_false e)
theorem xG {id:Nat} {ops:Array Oper}:ez z (.region id ops false) K m h n↔Ea z ops.toList ops.toList K m h n:=by
 refine and_congr_right fun hm=>⟨?_,?_⟩
 ·rintro ⟨k,x,h',n',e,r⟩
  cases k with
  |zero=>have e:(aW.fail "fuel":aW (bw×Tm)) = .ok x (S0 h' n'):=e;simp at e
  |succ k=>
   rw[bW] at e
   simp only[bh,cond_false] at e
   obtain⟨m',s₁,e₁,e₂⟩:=aX e
   simp only[aW.ok.injEq] at e₂
   obtain⟨rfl,rfl⟩:=e₂
   exact⟨k,m',h',n',e₁,r⟩
 ·rintro ⟨k,m',h',n',e,r⟩
  refine⟨k+1,(.normal,m'),h',n',?_,r⟩
  rw[bW]
  simp only[bh,cond_false,e,aM]
theorem E6 {ops:List Oper}:Ea z ops [] K m h n↔Rs z K .normal m h n:=by
 constructor
 ·rintro ⟨hm,k,m',h',n',e,r⟩
  simp only[gU,S0,aW.ok.injEq,HS.mk.injEq] at e
  obtain⟨rfl,rfl,rfl,_⟩:=e
  exact r
 ·intro r
  exact⟨tF r,0,m,h,n,rfl,r⟩
def iF (z:Zx) (w:Bool) (o:Oper) (ops r:List Oper) (K:List KF) (m:Tm) (h:PT aj) (n:Nat):Prop:=
 cond w (o.op.operands.toList.all a_=true∧iC z (iE z.P m.eval o) o.dst ops r K m h n) (iC z (.pure .skip) o.dst ops r K m h n)
theorem Cb {o:Oper} {ops r:List Oper}:Ea z ops (o::r) K m h n↔iF z (bU ops m o) o ops r K m h n:=by
 unfold iF
 cases hw:bU ops m o with
 |false=>
  simp only[cond_false]
  refine and_congr_right fun hm=>?_
  simp only[gU,lV,hw,cond_false,AP.run,aM,eS]
 |true=>
  simp only[cond_true]
  constructor
  ·rintro ⟨hm,k,m',h',n',e,r⟩
   simp only[gU,lV,hw,cond_true,iJ] at e
   cases hf:o.op.operands.toList.all a_ with
   |false=>rw[hf] at e;simp[bF] at e
   |true=>
    rw[hf] at e
    simp only[cond_true,gq] at e
    exact⟨rfl,hm,k,m',h',n',e,r⟩
  ·rintro ⟨hf,hm,k,m',h',n',e,r⟩
   refine⟨hm,k,m',h',n',?_,r⟩
   simp only[gU,lV,hw,cond_true,iJ,hf,gq]
   exact e
theorem Cc {o:Oper} {ops r:List Oper}:iF z true o ops r K m h n↔o.op.operands.toList.all a_=true∧iC z (iE z.P m.eval o) o.dst ops r K m h n:=Iff.rfl
theorem zU {o:Oper} {ops r:List Oper}:iF z false o ops r K m h n↔iC z (.pure .skip) o.dst ops r K m h n:=Iff.rfl
def up (m:Tm) (i:Nat) (v:Value):Tm:={ m with t:=m.t.set i (some v) }
variable {d:Option Nat} {ops r:List Oper}
theorem va {i:Nat} {v:Value}:(up m i v).get i=v:=by simp[up,Tm.get,PT.eH]
theorem zV {i j:Nat} {v:Value} (hij:i≠j):(up m i v).get j=m.get j:=by simp[up,Tm.get,PT.bJ _ _ hij]
theorem IZ {i:Nat} {v:Value}:(up m i v).n=m.n:=rfl
theorem I1 {i:Nat} {v:Value}:(up m i v).fO=m.fO:=rfl
theorem rS {i:Nat} {v:Value}:iC z (.pure (.value v)) (some i) ops r K m h n↔i<z.N∧Ea z ops r K (up m i v) h n:=by
 unfold iC Ea
 simp only[AP.run,aM,eS,iK,Tm.put,IZ]
 constructor
 ·rintro ⟨hm,k,m',h',n',e,q⟩
  cases hb:Nat.blt i m.n with
  |false=>rw[hb] at e;simp[bF] at e
  |true=>
   rw[hb] at e
   have:=Nat.le_of_ble_eq_true hb
   exact⟨by omega,hm,k,m',h',n',e,q⟩
 ·rintro ⟨hi,hm,k,m',h',n',e,q⟩
  have hb:Nat.blt i m.n=true:=Nat.ble_eq_true_of_le (by omega)
  exact⟨hm,k,m',h',n',by rw[hb];exact e,q⟩
theorem xH {v:Value}:iC z (.pure (.value v)) none ops r K m h n↔Ea z ops r K m h n:=Iff.rfl
theorem Cd {i:Nat}:iC z (.pure .skip) (some i) ops r K m h n↔i<z.N∧Ea z ops r K (up m i gI) h n:=rS (v:=gI)
theorem zW:iC z (.pure .skip) none ops r K m h n↔Ea z ops r K m h n:=Iff.rfl
theorem Ce {w:String}:iC z (.fail w) d ops r K m h n↔False:=by
 constructor
 ·rintro ⟨_,k,m',h',n',e,_⟩;simp[AP.run,bF] at e
 ·exact False.elim
def MY (z:Zx) (b:Option aj) (f:aj→AP aE) (d:Option Nat) (ops r:List Oper) (K:List KF) (m:Tm) (h:PT aj) (n:Nat):Prop:=
 match b with
 |some b=>iC z (f b) d ops r K m h n
 |none=>False
theorem tJ {id:Nat} {f:aj→AP aE}:iC z (.get id f) d ops r K m h n↔MY z (h.get id) f d ops r K m h n:=by
 unfold MY iC
 simp only[AP.run,show (S0 h n).heap=h from rfl]
 cases hb:h.get id with
 |none=>simp[bF]
 |some b=>simp only[show Nat.blt id 0=false from rfl,cond_false]
theorem qp {b:aj} {f:aj→AP aE}:MY z (some b) f d ops r K m h n↔iC z (f b) d ops r K m h n:=Iff.rfl
def I2 (z:Zx) (o:Option aj) (id:Nat) (b:Option aj) (p:AP aE) (d:Option Nat) (ops r:List Oper) (K:List KF) (m:Tm) (h:PT aj) (n:Nat):Prop:=
 match o with
 |some _=>iC z p d ops r K m (h.set id b) n
 |none=>False
theorem E7 {id:Nat} {b:aj} {p:AP aE}:iC z (.set id b p) d ops r K m h n↔I2 z (h.get id) id (some b) p d ops r K m h n:=by
 unfold I2 iC
 simp only[AP.run,show (S0 h n).heap=h from rfl]
 cases hb:h.get id with
 |none=>simp[bF]
 |some c=>simp only[show Nat.blt id 0=false from rfl,cond_false];exact Iff.rfl
theorem Cf {id:Nat} {p:AP aE}:iC z (.kill id p) d ops r K m h n↔I2 z (h.get id) id none p d ops r K m h n:=by
 unfold I2 iC
 simp only[AP.run,show (S0 h n).heap=h from rfl]
 cases hb:h.get id with
 |none=>simp[bF]
 |some c=>simp only[show Nat.blt id 0=false from rfl,cond_false];exact Iff.rfl
theorem Cg {c:aj} {id:Nat} {b:Option aj} {p:AP aE}:I2 z (some c) id b p d ops r K m h n↔iC z p d ops r K m (h.set id b) n:=Iff.rfl
theorem E8 {b:aj} {f:Nat→AP aE}:iC z (.new b f) d ops r K m h n↔iC z (f n) d ops r K m (h.set n (some b)) (n+1):=Iff.rfl
def I3 (z:Zx) (s:Option (AP Value)) (f:FuncId) (args:List Value) (d:Option Nat) (ops r:List Oper) (K:List KF) (m:Tm) (h:PT aj) (n:Nat):Prop:=
 match s with
 |some p=>iC z (p.bind fun v => .pure (.value v)) d ops r K m h n
 |none=>iC z (.pure (.enter f args)) d ops r K m h n
theorem run_bind {α β:Type} {lim:Nat}:∀ (p:AP α) (f:α→AP β) (s:HS),(p.bind f).run lim s=bF (p.run lim s) fun a s=>(f a).run lim s
 | .pure a,f,s=>rfl
 | .fail w,f,s=>rfl
 | .get id k,f,s=>by
  simp only[AP.bind,AP.run]
  cases s.heap.get id with
  |none=>rfl
  |some b=>exact run_bind (k b) f _
 | .set id b k,f,s=>by
  simp only[AP.bind,AP.run]
  cases s.heap.get id with
  |none=>rfl
  |some _=>exact run_bind k f _
 | .kill id k,f,s=>by
  simp only[AP.bind,AP.run]
  cases s.heap.get id with
  |none=>rfl
  |some _=>exact run_bind k f _
 | .new b k,f,s=>by
  simp only[AP.bind,AP.run]
  exact run_bind (k s.next) f _
theorem zX {f:FuncId} {args:List Value}:iC z (.pure (.enter f args)) d ops r K m h n↔I3 z (z.O f args) f args d ops r K m h n:=by
 unfold I3
 cases hO:z.O f args with
 |none=>exact Iff.rfl
 |some p=>
  simp only[iC,run_bind,gq,AP.run,aM,eS,ew,hO]
theorem Ch {p:AP Value} {f:FuncId} {args:List Value}:I3 z (some p) f args d ops r K m h n↔iC z (p.bind fun v => .pure (.value v)) d ops r K m h n:=Iff.rfl
end rules
end Go.Am
