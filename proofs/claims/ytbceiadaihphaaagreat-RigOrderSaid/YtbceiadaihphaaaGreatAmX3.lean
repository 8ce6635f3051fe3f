/-
  The abstract machine, for proofs with variables: the rules.
-/
import Derived.Test.YtbceiadaihphaaaGreatAmX2
set_option linter.unusedSimpArgs false
set_option linter.unusedVariables false
namespace Go.Am
section size
variable {P:Program} {O:dK} {ev:ke}
def NE (ev:ke):Prop:=∀ ro lim c m s x s',ev ro lim c m s = .ok x s'→x.2.n=m.n
theorem PY {m m':Tm} {d:Option Nat} {v:Value} (e:m.put d v=some m'):m'.n=m.n:=by
 unfold Tm.put at e
 cases d with
 |none=>simp only[Option.some.injEq] at e;rw[←e]
 |some i=>
  simp only at e
  cases hb:Nat.blt i m.n with
  |false=>rw[hb] at e;simp at e
  |true=>rw[hb] at e;simp only[cond_true,Option.some.injEq] at e;rw[←e]
theorem PZ {lim:Nat} {ops:List Oper} {o:Oper} {m m':Tm} {s s':HS} (e:n6 P O ev lim ops o m s = .ok m' s'):m'.n=m.n:=by
 unfold n6 at e
 obtain⟨v,s₁,_,e₂⟩:=bz e
 unfold jI at e₂
 cases hp:m.put o.dst v with
 |none=>rw[hp] at e₂;simp at e₂
 |some m₁=>rw[hp] at e₂;simp only[bw.ok.injEq] at e₂;rw[←e₂.1];exact PY hp
theorem JA {lim:Nat} {ops:List Oper}:∀ (r:List Oper) {m m':Tm} {s s':HS},bX P O ev lim ops r m s = .ok m' s'→m'.n=m.n
 | [],m,m',s,s',e=>by simp only[bX,bw.ok.injEq] at e;rw[e.1]
 |o::r,m,m',s,s',e=>by
  simp only[bX] at e
  obtain⟨v,s₁,e₁,e₂⟩:=bz e
  rw[JA r e₂,PZ e₁]
theorem DK {ops:List Oper}:∀ (r:List Oper) {m:Tm} {H:PT aj} {n:Nat} {x:Tm×List cm} {s':HS},jg P O ev ops r m H n = .ok x s'→x.1.n=m.n
 | [],m,H,n,x,s',e=>by simp only[jg,bw.ok.injEq] at e;rw[←e.1]
 |o::r,m,H,n,x,s',e=>by
  simp only[jg] at e
  obtain⟨v,s₁,e₁,e₂⟩:=bz e
  obtain⟨y,s₂,e₃,e₄⟩:=bz e₂
  simp only[bw.ok.injEq] at e₄
  rw[←e₄.1]
  show y.1.n=m.n
  rw[DK r e₃,PZ e₁]
theorem KT {lim:Nat} {ops:List Oper} {m m':Tm} {s s':HS} (e:ga P O ev lim ops m s = .ok m' s'):m'.n=m.n:=by
 unfold ga at e
 cases hd:iq ops (a_ (aY [] ops) ops.length) with
 |false=>rw[hd] at e;simp at e
 |true=>
  rw[hd] at e
  simp only[cond_true] at e
  obtain⟨x,s₁,e₁,e₂⟩:=bz e
  cases hf:dU x.2 (a_ (aY [] ops) ops.length) with
  |false=>rw[hf] at e₂;simp at e₂
  |true=>rw[hf] at e₂;simp only[cond_true,bw.ok.injEq] at e₂;rw[←e₂.1];exact DK ops e₁
theorem KU (h:NE ev):NE (bD P O ev):=by
 intro ro lim c m s x s' e
 cases c with
 |skip=>simp only[bD,bw.ok.injEq] at e;rw[←e.1]
 |label l=>simp only[bD,bw.ok.injEq] at e;rw[←e.1]
 |exit id=>simp only[bD,bw.ok.injEq] at e;rw[←e.1]
 |ret=>simp only[bD,bw.ok.injEq] at e;rw[←e.1]
 |goto l=>simp[bD] at e
 |refuse w=>simp[bD] at e
 |scope c=>exact h _ _ _ _ _ _ _ e
 |region id ops draw=>
  simp only[bD] at e
  obtain⟨m',s₁,e₁,e₂⟩:=bz e
  simp only[bw.ok.injEq] at e₂
  rw[←e₂.1]
  cases draw with
  |true=>exact KT e₁
  |false=>exact JA _ e₁
 |seq a b=>
  simp only[bD] at e
  obtain⟨y,s₁,e₁,e₂⟩:=bz e
  have:=h _ _ _ _ _ _ _ e₁
  cases hy:y.1 with
  |normal=>simp only[hy] at e₂;rw[h _ _ _ _ _ _ _ e₂,this]
  |exit i=>simp only[hy,bw.ok.injEq] at e₂;rw[←e₂.1,this]
  |ret=>simp only[hy,bw.ok.injEq] at e₂;rw[←e₂.1,this]
 |loop c=>
  simp only[bD] at e
  obtain⟨y,s₁,e₁,e₂⟩:=bz e
  have:=h _ _ _ _ _ _ _ e₁
  cases hy:y.1 with
  |normal=>simp only[hy] at e₂;rw[h _ _ _ _ _ _ _ e₂,this]
  |exit i=>simp only[hy,bw.ok.injEq] at e₂;rw[←e₂.1,this]
  |ret=>simp only[hy,bw.ok.injEq] at e₂;rw[←e₂.1,this]
 |cond c a b=>
  simp only[bD] at e
  cases hg:bt c with
  |false=>rw[hg] at e;simp at e
  |true=>
   rw[hg] at e
   simp only[cond_true] at e
   generalize m.eval c=z at e
   cases z with
   |bool t=>cases t<;>exact h _ _ _ _ _ _ _ e
   | _=>simp at e
 |block id c=>
  simp only[bD] at e
  obtain⟨y,s₁,e₁,e₂⟩:=bz e
  have:=h _ _ _ _ _ _ _ e₁
  cases hy:y.1 with
  |normal=>simp only[hy,bw.ok.injEq] at e₂;rw[←e₂.1,this]
  |exit i=>simp only[hy,bw.ok.injEq] at e₂;rw[←e₂.1];exact this
  |ret=>simp only[hy,bw.ok.injEq] at e₂;rw[←e₂.1,this]
 |rangeFunc g ps as bd=>
  simp only[bD] at e
  unfold fQ at e
  cases hg:bt g with
  |false=>rw[hg] at e;simp at e
  |true=>
   rw[hg] at e
   simp only[cond_true] at e
   obtain⟨_,_,_,e⟩:=bz e
   obtain⟨_,_,_,e⟩:=bz e
   obtain⟨_,_,_,e⟩:=bz e
   obtain⟨_,_,_,e⟩:=bz e
   simp only[bw.ok.injEq] at e
   rw[←e.1]
theorem DL:∀ k,NE (kX P O k)
 |0=>fun ro lim c m s x s' e=>by
  have e:(bw.fail "fuel":bw (bJ×Tm)) = .ok x s':=e
  simp at e
 |k+1=>KU (DL k)
end size
section rules
variable {z:Zx} {K:List KF} {m:Tm} {h:PT aj} {n:Nat} {R:bJ→Tm→PT aj→Nat→Prop}
theorem DM {c:Code} {k:Nat} {ro:Option Nat} {x:bJ×Tm} {s:HS} (e:kX z.P z.O k ro 0 c m (S0 h n) = .ok x s):s=S0 s.heap s.next:=DJ k ro c m h n x s e
theorem G1:Ev z .skip m h n R↔m.n=z.N∧R .normal m h n:=by
 refine and_congr_right fun hm=>⟨?_,fun r=>⟨1,(.normal,m),h,n,rfl,r⟩⟩
 rintro ⟨k,x,h',n',e,r⟩
 cases k with
 |zero=>have e:(bw.fail "fuel":bw (bJ×Tm)) = .ok x (S0 h' n'):=e;simp at e
 |succ k=>have e:(bw.ok (bJ.normal,m) (S0 h n):bw (bJ×Tm)) = .ok x (S0 h' n'):=e;simp only[S0,bw.ok.injEq,HS.mk.injEq] at e;obtain⟨rfl,rfl,rfl,_⟩:=e;exact r
theorem DN {l:Nat}:Ev z (.label l) m h n R↔m.n=z.N∧R .normal m h n:=by
 refine and_congr_right fun hm=>⟨?_,fun r=>⟨1,(.normal,m),h,n,rfl,r⟩⟩
 rintro ⟨k,x,h',n',e,r⟩
 cases k with
 |zero=>have e:(bw.fail "fuel":bw (bJ×Tm)) = .ok x (S0 h' n'):=e;simp at e
 |succ k=>have e:(bw.ok (bJ.normal,m) (S0 h n):bw (bJ×Tm)) = .ok x (S0 h' n'):=e;simp only[S0,bw.ok.injEq,HS.mk.injEq] at e;obtain⟨rfl,rfl,rfl,_⟩:=e;exact r
theorem G2 {i:Nat}:Ev z (.exit i) m h n R↔m.n=z.N∧R (.exit i) m h n:=by
 refine and_congr_right fun hm=>⟨?_,fun r=>⟨1,(.exit i,m),h,n,rfl,r⟩⟩
 rintro ⟨k,x,h',n',e,r⟩
 cases k with
 |zero=>have e:(bw.fail "fuel":bw (bJ×Tm)) = .ok x (S0 h' n'):=e;simp at e
 |succ k=>have e:(bw.ok (bJ.exit i,m) (S0 h n):bw (bJ×Tm)) = .ok x (S0 h' n'):=e;simp only[S0,bw.ok.injEq,HS.mk.injEq] at e;obtain⟨rfl,rfl,rfl,_⟩:=e;exact r
theorem KW:Ev z .ret m h n R↔m.n=z.N∧R .ret m h n:=by
 refine and_congr_right fun hm=>⟨?_,fun r=>⟨1,(.ret,m),h,n,rfl,r⟩⟩
 rintro ⟨k,x,h',n',e,r⟩
 cases k with
 |zero=>have e:(bw.fail "fuel":bw (bJ×Tm)) = .ok x (S0 h' n'):=e;simp at e
 |succ k=>have e:(bw.ok (bJ.ret,m) (S0 h n):bw (bJ×Tm)) = .ok x (S0 h' n'):=e;simp only[S0,bw.ok.injEq,HS.mk.injEq] at e;obtain⟨rfl,rfl,rfl,_⟩:=e;exact r
theorem DP {c:Code}:Ev z (.scope c) m h n R↔Ev z c m h n R:=by
 refine and_congr_right fun hm=>⟨?_,?_⟩
 ·rintro ⟨k,x,h',n',e,r⟩
  cases k with
  |zero=>have e:(bw.fail "fuel":bw (bJ×Tm)) = .ok x (S0 h' n'):=e;simp at e
  |succ k=>exact⟨k,x,h',n',e,r⟩
 ·rintro ⟨k,x,h',n',e,r⟩
  exact⟨k+1,x,h',n',e,r⟩
theorem KX {a b:Code}:Ev z (.seq a b) m h n R↔Ev z a m h n (fun e m h n=>match e with | .normal=>Ev z b m h n R | _=>R e m h n):=by
 refine and_congr_right fun hm=>⟨?_,?_⟩
 ·rintro ⟨k,x,h',n',e,r⟩
  cases k with
  |zero=>have e:(bw.fail "fuel":bw (bJ×Tm)) = .ok x (S0 h' n'):=e;simp at e
  |succ k=>
   rw[cD] at e
   simp only[bD] at e
   obtain⟨y,s₁,e₁,e₂⟩:=bz e
   have hs:=DM e₁
   refine⟨k,y,s₁.heap,s₁.next,hs ▸ e₁,?_⟩
   cases hy:y.1 with
   |normal=>simp only[hy] at e₂ ⊢;exact⟨(DL k _ _ _ _ _ _ _ e₁).trans hm,k,x,h',n',hs ▸ e₂,r⟩
   |exit i=>simp only[hy,bw.ok.injEq] at e₂ ⊢;obtain⟨rfl,rfl⟩:=e₂;rw[hy] at r;exact r
   |ret=>simp only[hy,bw.ok.injEq] at e₂ ⊢;obtain⟨rfl,rfl⟩:=e₂;rw[hy] at r;exact r
 ·rintro ⟨k,y,h₁,n₁,e₁,r⟩
  cases hy:y.1 with
  |normal=>
   simp only[hy] at r
   obtain⟨_,k₂,x,h',n',e₂,r⟩:=r
   refine⟨max k k₂+1,x,h',n',?_,r⟩
   rw[cD]
   simp only[bD]
   rw[ez (Nat.le_max_left k k₂) _ _ _ _ _ _ _ e₁,aK]
   simp only[hy]
   exact ez (Nat.le_max_right k k₂) _ _ _ _ _ _ _ e₂
  |exit i=>
   simp only[hy] at r
   refine⟨k+1,y,h₁,n₁,?_,by rw[hy];exact r⟩
   rw[cD];simp only[bD];rw[e₁,aK];simp only[hy]
  |ret=>
   simp only[hy] at r
   refine⟨k+1,y,h₁,n₁,?_,by rw[hy];exact r⟩
   rw[cD];simp only[bD];rw[e₁,aK];simp only[hy]
theorem G3 {c:Code}:Ev z (.loop c) m h n R↔Ev z c m h n (fun e m h n=>match e with | .normal=>Ev z (.loop c) m h n R | _=>R e m h n):=by
 refine and_congr_right fun hm=>⟨?_,?_⟩
 ·rintro ⟨k,x,h',n',e,r⟩
  cases k with
  |zero=>have e:(bw.fail "fuel":bw (bJ×Tm)) = .ok x (S0 h' n'):=e;simp at e
  |succ k=>
   rw[cD] at e
   simp only[bD] at e
   obtain⟨y,s₁,e₁,e₂⟩:=bz e
   have hs:=DM e₁
   refine⟨k,y,s₁.heap,s₁.next,hs ▸ e₁,?_⟩
   cases hy:y.1 with
   |normal=>simp only[hy] at e₂ ⊢;exact⟨(DL k _ _ _ _ _ _ _ e₁).trans hm,k,x,h',n',hs ▸ e₂,r⟩
   |exit i=>simp only[hy,bw.ok.injEq] at e₂ ⊢;obtain⟨rfl,rfl⟩:=e₂;rw[hy] at r;exact r
   |ret=>simp only[hy,bw.ok.injEq] at e₂ ⊢;obtain⟨rfl,rfl⟩:=e₂;rw[hy] at r;exact r
 ·rintro ⟨k,y,h₁,n₁,e₁,r⟩
  cases hy:y.1 with
  |normal=>
   simp only[hy] at r
   obtain⟨_,k₂,x,h',n',e₂,r⟩:=r
   refine⟨max k k₂+1,x,h',n',?_,r⟩
   rw[cD]
   simp only[bD]
   rw[ez (Nat.le_max_left k k₂) _ _ _ _ _ _ _ e₁,aK]
   simp only[hy]
   exact ez (Nat.le_max_right k k₂) _ _ _ _ _ _ _ e₂
  |exit i=>
   simp only[hy] at r
   refine⟨k+1,y,h₁,n₁,?_,by rw[hy];exact r⟩
   rw[cD];simp only[bD];rw[e₁,aK];simp only[hy]
  |ret=>
   simp only[hy] at r
   refine⟨k+1,y,h₁,n₁,?_,by rw[hy];exact r⟩
   rw[cD];simp only[bD];rw[e₁,aK];simp only[hy]
theorem DQ {id:Nat} {c:Code}:Ev z (.block id c) m h n R↔Ev z c m h n (fun e m h n=>match e with | .exit i=>R (cond (Nat.beq i id) .normal (.exit i)) m h n | _=>R e m h n):=by
 refine and_congr_right fun hm=>⟨?_,?_⟩
 ·rintro ⟨k,x,h',n',e,r⟩
  cases k with
  |zero=>have e:(bw.fail "fuel":bw (bJ×Tm)) = .ok x (S0 h' n'):=e;simp at e
  |succ k=>
   rw[cD] at e
   simp only[bD] at e
   obtain⟨y,s₁,e₁,e₂⟩:=bz e
   have hs:=DM e₁
   refine⟨k,y,s₁.heap,s₁.next,hs ▸ e₁,?_⟩
   cases hy:y.1 with
   |normal=>simp only[hy,bw.ok.injEq] at e₂ ⊢;obtain⟨rfl,rfl⟩:=e₂;rw[hy] at r;exact r
   |exit i=>simp only[hy,bw.ok.injEq] at e₂ ⊢;obtain⟨rfl,rfl⟩:=e₂;exact r
   |ret=>simp only[hy,bw.ok.injEq] at e₂ ⊢;obtain⟨rfl,rfl⟩:=e₂;rw[hy] at r;exact r
 ·rintro ⟨k,y,h₁,n₁,e₁,r⟩
  cases hy:y.1 with
  |normal=>
   simp only[hy] at r
   refine⟨k+1,y,h₁,n₁,?_,by rw[hy];exact r⟩
   rw[cD];simp only[bD];rw[e₁,aK];simp only[hy]
  |exit i=>
   simp only[hy] at r
   refine⟨k+1,(cond (Nat.beq i id) .normal (.exit i),y.2),h₁,n₁,?_,r⟩
   rw[cD];simp only[bD];rw[e₁,aK];simp only[hy]
  |ret=>
   simp only[hy] at r
   refine⟨k+1,y,h₁,n₁,?_,by rw[hy];exact r⟩
   rw[cD];simp only[bD];rw[e₁,aK];simp only[hy]
theorem G4 {c:Operand} {a b:Code}:Ev z (.cond c a b) m h n R↔bt c=true∧∃ t,m.eval c = .bool t∧Ev z (cond t a b) m h n R:=by
 constructor
 ·rintro ⟨hm,k,x,h',n',e,r⟩
  cases k with
  |zero=>have e:(bw.fail "fuel":bw (bJ×Tm)) = .ok x (S0 h' n'):=e;simp at e
  |succ k=>
   rw[cD] at e
   simp only[bD] at e
   cases hg:bt c with
   |false=>rw[hg] at e;simp at e
   |true=>
    rw[hg] at e
    simp only[cond_true] at e
    refine⟨rfl,?_⟩
    generalize m.eval c=v at e ⊢
    cases v with
    |bool t=>cases t<;>exact⟨_,rfl,hm,k,x,h',n',e,r⟩
    | _=>simp at e
 ·rintro ⟨hg,t,ht,hm,k,x,h',n',e,r⟩
  refine⟨hm,k+1,x,h',n',?_,r⟩
  rw[cD]
  simp only[bD,hg,cond_true,ht]
  cases t<;>exact e
theorem G5 {a b:Code}:eZ z (.seq a b) K m h n↔eZ z a (.seq b::K) m h n:=by
 unfold eZ
 rw[KX]
 refine⟨Ev.mono fun e m h n r=>?_,Ev.mono fun e m h n r=>?_⟩<;>cases e<;>exact r
theorem Bg {id:Nat} {c:Code}:eZ z (.block id c) K m h n↔eZ z c (.block id::K) m h n:=by
 unfold eZ
 rw[DQ]
 refine⟨Ev.mono fun e m h n r=>?_,Ev.mono fun e m h n r=>?_⟩<;>cases e<;>exact r
theorem cE {c:Code}:eZ z (.loop c) K m h n↔eZ z c (.loop c::K) m h n:=by
 unfold eZ
 rw[G3]
 refine⟨Ev.mono fun e m h n r=>?_,Ev.mono fun e m h n r=>?_⟩<;>cases e<;>exact r
theorem Bh {c:Code}:eZ z (.scope c) K m h n↔eZ z c K m h n:=DP
theorem uH:∀ {K:List KF} {e:bJ},Rs z K e m h n→m.n=z.N
 | [],e,r=>r.1
 | .seq c::K,e,r=>by cases e<;>first |exact r.1 |exact uH (K:=K) r
 | .block id::K,e,r=>by cases e<;>exact uH (K:=K) r
 | .loop c::K,e,r=>by cases e<;>first |exact r.1 |exact uH (K:=K) r
theorem DR:eZ z .skip K m h n↔Rs z K .normal m h n:=G1.trans ⟨fun r=>r.2,fun r=>⟨uH r,r⟩⟩
theorem Bi {l:Nat}:eZ z (.label l) K m h n↔Rs z K .normal m h n:=DN.trans ⟨fun r=>r.2,fun r=>⟨uH r,r⟩⟩
theorem DS {i:Nat}:eZ z (.exit i) K m h n↔Rs z K (.exit i) m h n:=G2.trans ⟨fun r=>r.2,fun r=>⟨uH r,r⟩⟩
theorem G6:eZ z .ret K m h n↔Rs z K .ret m h n:=KW.trans ⟨fun r=>r.2,fun r=>⟨uH r,r⟩⟩
theorem KY {c:Code}:Rs z (.seq c::K) .normal m h n↔eZ z c K m h n:=Iff.rfl
theorem wm {c:Code} {i:Nat}:Rs z (.seq c::K) (.exit i) m h n↔Rs z K (.exit i) m h n:=Iff.rfl
theorem yK {c:Code}:Rs z (.seq c::K) .ret m h n↔Rs z K .ret m h n:=Iff.rfl
theorem DT {id:Nat}:Rs z (.block id::K) .normal m h n↔Rs z K .normal m h n:=Iff.rfl
theorem uI {id:Nat}:Rs z (.block id::K) .ret m h n↔Rs z K .ret m h n:=Iff.rfl
theorem s6 {id i:Nat}:Rs z (.block id::K) (.exit i) m h n↔Rs z K (cond (Nat.beq i id) .normal (.exit i)) m h n:=Iff.rfl
theorem G7 {c:Code}:Rs z (.loop c::K) .normal m h n↔eZ z (.loop c) K m h n:=Iff.rfl
theorem uJ {c:Code} {i:Nat}:Rs z (.loop c::K) (.exit i) m h n↔Rs z K (.exit i) m h n:=Iff.rfl
theorem wq {c:Code}:Rs z (.loop c::K) .ret m h n↔Rs z K .ret m h n:=Iff.rfl
theorem KZ {e:bJ}:Rs z [] e m h n↔m.n=z.N∧z.Q e m h n:=Iff.rfl
def yL (z:Zx) (v:Value) (a b:Code) (K:List KF) (m:Tm) (h:PT aj) (n:Nat):Prop:=∃ t,v = .bool t∧eZ z (cond t a b) K m h n
theorem DU {c:Operand} {a b:Code}:eZ z (.cond c a b) K m h n↔bt c=true∧yL z (m.eval c) a b K m h n:=G4
theorem rZ {a b:Code}:yL z (.bool true) a b K m h n↔eZ z a K m h n:=⟨fun ⟨t,e,r⟩=>by cases e;exact r,fun r=>⟨true,rfl,r⟩⟩
theorem pK {a b:Code}:yL z (.bool false) a b K m h n↔eZ z b K m h n:=⟨fun ⟨t,e,r⟩=>by cases e;exact r,fun r=>⟨false,rfl,r⟩⟩
theorem wu {a b:Code} {t:Bool} (h1:t=true→eZ z a K m h n) (h2:t=false→eZ z b K m h n):yL z (.bool t) a b K m h n:=by
 refine⟨t,rfl,?_⟩;cases t<;>first |exact h1 rfl |exact h2 rfl
theorem G8 {a b:Code} {p:Prop} [Decidable p] (h1:p→eZ z a K m h n) (h2: ¬ p→eZ z b K m h n):yL z (.bool (decide p)) a b K m h n:=
 wu (fun e=>h1 (of_decide_eq_true e)) fun e=>h2 (of_decide_eq_false e)
theorem yM {id:Nat} {ops:Array Oper}:eZ z (.region id ops false) K m h n↔F5 z ops.toList ops.toList K m h n:=by
 refine and_congr_right fun hm=>⟨?_,?_⟩
 ·rintro ⟨k,x,h',n',e,r⟩
  cases k with
  |zero=>have e:(bw.fail "fuel":bw (bJ×Tm)) = .ok x (S0 h' n'):=e;simp at e
  |succ k=>
   rw[cD] at e
   simp only[bD,cond_false] at e
   obtain⟨m',s₁,e₁,e₂⟩:=bz e
   simp only[bw.ok.injEq] at e₂
   obtain⟨rfl,rfl⟩:=e₂
   exact⟨k,m',h',n',e₁,r⟩
 ·rintro ⟨k,m',h',n',e,r⟩
  refine⟨k+1,(.normal,m'),h',n',?_,r⟩
  rw[cD]
  simp only[bD,cond_false,e,aK]
theorem G9 {ops:List Oper}:F5 z ops [] K m h n↔Rs z K .normal m h n:=by
 constructor
 ·rintro ⟨hm,k,m',h',n',e,r⟩
  simp only[bX,S0,bw.ok.injEq,HS.mk.injEq] at e
  obtain⟨rfl,rfl,rfl,_⟩:=e
  exact r
 ·intro r
  exact⟨uH r,0,m,h,n,rfl,r⟩
def jB (z:Zx) (w:Bool) (o:Oper) (ops r:List Oper) (K:List KF) (m:Tm) (h:PT aj) (n:Nat):Prop:=
 cond w (o.op.operands.toList.all bt=true∧kU z (jA z.P m.eval o) o.dst ops r K m h n) (kU z (.pure .skip) o.dst ops r K m h n)
theorem DV {o:Oper} {ops r:List Oper}:F5 z ops (o::r) K m h n↔jB z (cI ops m o) o ops r K m h n:=by
 unfold jB
 cases hw:cI ops m o with
 |false=>
  simp only[cond_false]
  refine and_congr_right fun hm=>?_
  simp only[bX,n6,hw,cond_false,AP.run,aK,f_]
 |true=>
  simp only[cond_true]
  constructor
  ·rintro ⟨hm,k,m',h',n',e,r⟩
   simp only[bX,n6,hw,cond_true,jH] at e
   cases hf:o.op.operands.toList.all bt with
   |false=>rw[hf] at e;simp[bT] at e
   |true=>
    rw[hf] at e
    simp only[cond_true,iF] at e
    exact⟨rfl,hm,k,m',h',n',e,r⟩
  ·rintro ⟨hf,hm,k,m',h',n',e,r⟩
   refine⟨hm,k,m',h',n',?_,r⟩
   simp only[bX,n6,hw,cond_true,jH,hf,iF]
   exact e
theorem DW {o:Oper} {ops r:List Oper}:jB z true o ops r K m h n↔o.op.operands.toList.all bt=true∧kU z (jA z.P m.eval o) o.dst ops r K m h n:=Iff.rfl
theorem Bj {o:Oper} {ops r:List Oper}:jB z false o ops r K m h n↔kU z (.pure .skip) o.dst ops r K m h n:=Iff.rfl
def up (m:Tm) (i:Nat) (v:Value):Tm:={ m with t:=m.t.set i (some v) }
variable {d:Option Nat} {ops r:List Oper}
theorem wz {i:Nat} {v:Value}:(up m i v).get i=v:=by simp[up,Tm.get,PT.gi]
theorem Bk {i j:Nat} {v:Value} (hij:i≠j):(up m i v).get j=m.get j:=by simp[up,Tm.get,PT.cF _ _ hij]
theorem K0 {i:Nat} {v:Value}:(up m i v).n=m.n:=rfl
theorem K1 {i:Nat} {v:Value}:(up m i v).gD=m.gD:=rfl
theorem tP {i:Nat} {v:Value}:kU z (.pure (.value v)) (some i) ops r K m h n↔i<z.N∧F5 z ops r K (up m i v) h n:=by
 unfold kU F5
 simp only[AP.run,aK,f_,jI,Tm.put,K0]
 constructor
 ·rintro ⟨hm,k,m',h',n',e,q⟩
  cases hb:Nat.blt i m.n with
  |false=>rw[hb] at e;simp[bT] at e
  |true=>
   rw[hb] at e
   have:=Nat.le_of_ble_eq_true hb
   exact⟨by omega,hm,k,m',h',n',e,q⟩
 ·rintro ⟨hi,hm,k,m',h',n',e,q⟩
  have hb:Nat.blt i m.n=true:=Nat.ble_eq_true_of_le (by omega)
  exact⟨hm,k,m',h',n',by rw[hb];exact e,q⟩
theorem yN {v:Value}:kU z (.pure (.value v)) none ops r K m h n↔F5 z ops r K m h n:=Iff.rfl
theorem DX {i:Nat}:kU z (.pure .skip) (some i) ops r K m h n↔i<z.N∧F5 z ops r K (up m i ij) h n:=tP (v:=ij)
theorem Bl:kU z (.pure .skip) none ops r K m h n↔F5 z ops r K m h n:=Iff.rfl
theorem DY {w:String}:kU z (.fail w) d ops r K m h n↔False:=by
 constructor
 ·rintro ⟨_,k,m',h',n',e,_⟩;simp[AP.run,bT] at e
 ·exact False.elim
def P0 (z:Zx) (b:Option aj) (f:aj→AP aJ) (d:Option Nat) (ops r:List Oper) (K:List KF) (m:Tm) (h:PT aj) (n:Nat):Prop:=
 match b with
 |some b=>kU z (f b) d ops r K m h n
 |none=>False
theorem G_ {id:Nat} {f:aj→AP aJ}:kU z (.get id f) d ops r K m h n↔P0 z (h.get id) f d ops r K m h n:=by
 unfold P0 kU
 simp only[AP.run,show (S0 h n).heap=h from rfl]
 cases hb:h.get id with
 |none=>simp[bT]
 |some b=>simp only[show Nat.blt id 0=false from rfl,cond_false]
theorem DZ {b:aj} {f:aj→AP aJ}:P0 z (some b) f d ops r K m h n↔kU z (f b) d ops r K m h n:=Iff.rfl
def K2 (z:Zx) (o:Option aj) (id:Nat) (b:Option aj) (p:AP aJ) (d:Option Nat) (ops r:List Oper) (K:List KF) (m:Tm) (h:PT aj) (n:Nat):Prop:=
 match o with
 |some _=>kU z p d ops r K m (h.set id b) n
 |none=>False
theorem He {id:Nat} {b:aj} {p:AP aJ}:kU z (.set id b p) d ops r K m h n↔K2 z (h.get id) id (some b) p d ops r K m h n:=by
 unfold K2 kU
 simp only[AP.run,show (S0 h n).heap=h from rfl]
 cases hb:h.get id with
 |none=>simp[bT]
 |some c=>simp only[show Nat.blt id 0=false from rfl,cond_false];exact Iff.rfl
theorem D0 {id:Nat} {p:AP aJ}:kU z (.kill id p) d ops r K m h n↔K2 z (h.get id) id none p d ops r K m h n:=by
 unfold K2 kU
 simp only[AP.run,show (S0 h n).heap=h from rfl]
 cases hb:h.get id with
 |none=>simp[bT]
 |some c=>simp only[show Nat.blt id 0=false from rfl,cond_false];exact Iff.rfl
theorem D1 {c:aj} {id:Nat} {b:Option aj} {p:AP aJ}:K2 z (some c) id b p d ops r K m h n↔kU z p d ops r K m (h.set id b) n:=Iff.rfl
theorem Hf {b:aj} {f:Nat→AP aJ}:kU z (.new b f) d ops r K m h n↔kU z (f n) d ops r K m (h.set n (some b)) (n+1):=Iff.rfl
def K3 (z:Zx) (s:Option (AP Value)) (f:FuncId) (args:List Value) (d:Option Nat) (ops r:List Oper) (K:List KF) (m:Tm) (h:PT aj) (n:Nat):Prop:=
 match s with
 |some p=>kU z (p.bind fun v => .pure (.value v)) d ops r K m h n
 |none=>kU z (.pure (.enter f args)) d ops r K m h n
theorem run_bind {α β:Type} {lim:Nat}:∀ (p:AP α) (f:α→AP β) (s:HS),(p.bind f).run lim s=bT (p.run lim s) fun a s=>(f a).run lim s
 | .pure a,f,s=>rfl
 | .fail w,f,s=>rfl
 | .get id k,f,s=>by
  simp only[AP.bind,AP.run]
  cases s.heap.get id with
  |none=>rfl
  |some b=>exact run_bind (k b) f _
 | .set id b k,f,s=>by
  simp only[AP.bind,AP.run]
  cases s.heap.get id with
  |none=>rfl
  |some _=>exact run_bind k f _
 | .kill id k,f,s=>by
  simp only[AP.bind,AP.run]
  cases s.heap.get id with
  |none=>rfl
  |some _=>exact run_bind k f _
 | .new b k,f,s=>by
  simp only[AP.bind,AP.run]
  exact run_bind (k s.next) f _
theorem Bm {f:FuncId} {args:List Value}:kU z (.pure (.enter f args)) d ops r K m h n↔K3 z (z.O f args) f args d ops r K m h n:=by
 unfold K3
 cases hO:z.O f args with
 |none=>exact Iff.rfl
 |some p=>
  simp only[kU,run_bind,iF,AP.run,aK,f_,fD,hO]
theorem D2 {p:AP Value} {f:FuncId} {args:List Value}:K3 z (some p) f args d ops r K m h n↔kU z (p.bind fun v => .pure (.value v)) d ops r K m h n:=Iff.rfl
end rules
end Go.Am
