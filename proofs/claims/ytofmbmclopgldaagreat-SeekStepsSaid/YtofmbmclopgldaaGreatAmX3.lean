/-
A part.
-/
import Derived.Test.YtofmbmclopgldaaGreatAmX2
set_option linter.all false
namespace Go.Am
section size
variable {P:Program} {O:Over} {ev:iL}
def NE(ev:iL):Prop:=∀ ro lim c m s x s',ev ro lim c m s = .ok x s'→x.2.n=m.n
theorem ada{m m':Tm}{d:Option Nat}{v:Value}(e:m.put d v=some m'):m'.n=m.n:=by
 unfold Tm.put at e;cases d with
 |none=>simp only[Option.some.injEq] at e;rw[←e]
 |some i=>
  simp only at e;cases hb:Nat.blt i m.n with
  |false=>rw[hb] at e;simp at e
  |true=>rw[hb] at e;simp only[cond_true,Option.some.injEq] at e;rw[←e]
theorem adb{lim:Nat}{ops:List Oper}{o:Oper}{m m':Tm}{s s':HS}(e:lW P O ev lim ops o m s = .ok m' s'):m'.n=m.n:=by
 unfold lW at e;obtain⟨v,s₁,_,e₂⟩:=bE e;unfold jt at e₂;cases hp:m.put o.dst v with
 |none=>rw[hp] at e₂;simp at e₂
 |some m₁=>rw[hp] at e₂;simp only[aO.ok.injEq] at e₂;rw[←e₂.1];exact ada hp
theorem V5{lim:Nat}{ops:List Oper}:∀ (r:List Oper) {m m':Tm} {s s':HS},jl P O ev lim ops r m s = .ok m' s'→m'.n=m.n
 | [],m,m',s,s',e=>by simp only[jl,aO.ok.injEq] at e;rw[e.1]
 |o::r,m,m',s,s',e=>by
  simp only[jl] at e;obtain⟨v,s₁,e₁,e₂⟩:=bE e;rw[V5 r e₂,adb e₁]
theorem MS{ops:List Oper}:∀ (r:List Oper) {m:Tm} {H:PT aj} {n:Nat} {x:Tm×List bO} {s':HS},g8 P O ev ops r m H n = .ok x s'→x.1.n=m.n
 | [],m,H,n,x,s',e=>by simp only[g8,aO.ok.injEq] at e;rw[←e.1]
 |o::r,m,H,n,x,s',e=>by
  simp only[g8] at e;obtain⟨v,s₁,e₁,e₂⟩:=bE e;obtain⟨y,s₂,e₃,e₄⟩:=bE e₂;simp only[aO.ok.injEq] at e₄;rw[←e₄.1]
  show y.1.n=m.n
  rw[MS r e₃,adb e₁]
theorem Yi{lim:Nat}{ops:List Oper}{m m':Tm}{s s':HS}(e:fJ P O ev lim ops m s = .ok m' s'):m'.n=m.n:=by
 unfold fJ at e;cases hd:g9 ops (aR (aU [] ops) ops.length) with
 |false=>rw[hd] at e;simp at e
 |true=>
  rw[hd] at e;simp only[cond_true] at e;obtain⟨x,s₁,e₁,e₂⟩:=bE e;cases hf:dc x.2 (aR (aU [] ops) ops.length) with
  |false=>rw[hf] at e₂;simp at e₂
  |true=>rw[hf] at e₂;simp only[cond_true,aO.ok.injEq] at e₂;rw[←e₂.1];exact MS ops e₁
theorem Yj(h:NE ev):NE (br P O ev):=by
 intro ro lim c m s x s' e;cases c with
 |skip=>simp only[br,aO.ok.injEq] at e;rw[←e.1]
 |label l=>simp only[br,aO.ok.injEq] at e;rw[←e.1]
 |exit id=>simp only[br,aO.ok.injEq] at e;rw[←e.1]
 |ret=>simp only[br,aO.ok.injEq] at e;rw[←e.1]
 |goto l=>simp[br] at e
 |refuse w=>simp[br] at e
 |scope c=>exact h _ _ _ _ _ _ _ e
 |region id ops draw=>
  simp only[br] at e;obtain⟨m',s₁,e₁,e₂⟩:=bE e;simp only[aO.ok.injEq] at e₂;rw[←e₂.1];cases draw with
  |true=>exact Yi e₁
  |false=>exact V5 _ e₁
 |seq a b=>
  simp only[br] at e;obtain⟨y,s₁,e₁,e₂⟩:=bE e;have:=h _ _ _ _ _ _ _ e₁;cases hy:y.1 with
  |normal=>simp only[hy] at e₂;rw[h _ _ _ _ _ _ _ e₂,this]
  |exit i=>simp only[hy,aO.ok.injEq] at e₂;rw[←e₂.1,this]
  |ret=>simp only[hy,aO.ok.injEq] at e₂;rw[←e₂.1,this]
 |loop c=>
  simp only[br] at e;obtain⟨y,s₁,e₁,e₂⟩:=bE e;have:=h _ _ _ _ _ _ _ e₁;cases hy:y.1 with
  |normal=>simp only[hy] at e₂;rw[h _ _ _ _ _ _ _ e₂,this]
  |exit i=>simp only[hy,aO.ok.injEq] at e₂;rw[←e₂.1,this]
  |ret=>simp only[hy,aO.ok.injEq] at e₂;rw[←e₂.1,this]
 |cond c a b=>
  simp only[br] at e;cases hg:bz c with
  |false=>rw[hg] at e;simp at e
  |true=>
   rw[hg] at e;simp only[cond_true] at e;generalize m.eval c=z at e;cases z with
   |bool t=>cases t<;>exact h _ _ _ _ _ _ _ e
   | _=>simp at e
 |block id c=>
  simp only[br] at e;obtain⟨y,s₁,e₁,e₂⟩:=bE e;have:=h _ _ _ _ _ _ _ e₁;cases hy:y.1 with
  |normal=>simp only[hy,aO.ok.injEq] at e₂;rw[←e₂.1,this]
  |exit i=>simp only[hy,aO.ok.injEq] at e₂;rw[←e₂.1];exact this
  |ret=>simp only[hy,aO.ok.injEq] at e₂;rw[←e₂.1,this]
 |rangeFunc g ps as bd=>
  simp only[br] at e;unfold fL at e;cases hg:bz g with
  |false=>rw[hg] at e;simp at e
  |true=>
   rw[hg] at e;simp only[cond_true] at e;obtain⟨_,_,_,e⟩:=bE e;obtain⟨_,_,_,e⟩:=bE e;obtain⟨_,_,_,e⟩:=bE e;obtain⟨_,_,_,e⟩:=bE e;simp only[aO.ok.injEq] at e;rw[←e.1]
theorem MT:∀ k,NE (mQ P O k)
 |0=>fun ro lim c m s x s' e=>by
  have e:(aO.fail "fuel":aO (bp×Tm)) = .ok x s':=e;simp at e
 |k+1=>Yj (MT k)
end size
section rules
variable {z:Zx} {K:List KF} {m:Tm} {h:PT aj} {n:Nat} {R:bp→Tm→PT aj→Nat→Prop}
theorem MU{c:Code}{k:Nat}{ro:Option Nat}{x:bp×Tm}{s:HS}(e:mQ z.P z.O k ro 0 c m (S0 h n) = .ok x s):s=S0 s.heap s.next:=MR k ro c m h n x s e
theorem SJ:Ev z .skip m h n R↔m.n=z.N∧R .normal m h n:=by
 refine and_congr_right fun hm=>⟨?_,fun r=>⟨1,(.normal,m),h,n,rfl,r⟩⟩;rintro ⟨k,x,h',n',e,r⟩;cases k with
 |zero=>have e:(aO.fail "fuel":aO (bp×Tm)) = .ok x (S0 h' n'):=e;simp at e
 |succ k=>have e:(aO.ok (bp.normal,m) (S0 h n):aO (bp×Tm)) = .ok x (S0 h' n'):=e;simp only[S0,aO.ok.injEq,HS.mk.injEq] at e;obtain⟨rfl,rfl,rfl,_⟩:=e;exact r
theorem MV{l:Nat}:Ev z (.label l) m h n R↔m.n=z.N∧R .normal m h n:=by
 refine and_congr_right fun hm=>⟨?_,fun r=>⟨1,(.normal,m),h,n,rfl,r⟩⟩;rintro ⟨k,x,h',n',e,r⟩;cases k with
 |zero=>have e:(aO.fail "fuel":aO (bp×Tm)) = .ok x (S0 h' n'):=e;simp at e
 |succ k=>have e:(aO.ok (bp.normal,m) (S0 h n):aO (bp×Tm)) = .ok x (S0 h' n'):=e;simp only[S0,aO.ok.injEq,HS.mk.injEq] at e;obtain⟨rfl,rfl,rfl,_⟩:=e;exact r
theorem SK{i:Nat}:Ev z (.exit i) m h n R↔m.n=z.N∧R (.exit i) m h n:=by
 refine and_congr_right fun hm=>⟨?_,fun r=>⟨1,(.exit i,m),h,n,rfl,r⟩⟩;rintro ⟨k,x,h',n',e,r⟩;cases k with
 |zero=>have e:(aO.fail "fuel":aO (bp×Tm)) = .ok x (S0 h' n'):=e;simp at e
 |succ k=>have e:(aO.ok (bp.exit i,m) (S0 h n):aO (bp×Tm)) = .ok x (S0 h' n'):=e;simp only[S0,aO.ok.injEq,HS.mk.injEq] at e;obtain⟨rfl,rfl,rfl,_⟩:=e;exact r
theorem Yk:Ev z .ret m h n R↔m.n=z.N∧R .ret m h n:=by
 refine and_congr_right fun hm=>⟨?_,fun r=>⟨1,(.ret,m),h,n,rfl,r⟩⟩;rintro ⟨k,x,h',n',e,r⟩;cases k with
 |zero=>have e:(aO.fail "fuel":aO (bp×Tm)) = .ok x (S0 h' n'):=e;simp at e
 |succ k=>have e:(aO.ok (bp.ret,m) (S0 h n):aO (bp×Tm)) = .ok x (S0 h' n'):=e;simp only[S0,aO.ok.injEq,HS.mk.injEq] at e;obtain⟨rfl,rfl,rfl,_⟩:=e;exact r
theorem MW{c:Code}:Ev z (.scope c) m h n R↔Ev z c m h n R:=by
 refine and_congr_right fun hm=>⟨?_,?_⟩
 ·rintro ⟨k,x,h',n',e,r⟩;cases k with
  |zero=>have e:(aO.fail "fuel":aO (bp×Tm)) = .ok x (S0 h' n'):=e;simp at e
  |succ k=>exact⟨k,x,h',n',e,r⟩
 ·rintro ⟨k,x,h',n',e,r⟩;exact⟨k+1,x,h',n',e,r⟩
theorem Yl{a b:Code}:Ev z (.seq a b) m h n R↔Ev z a m h n (fun e m h n=>match e with | .normal=>Ev z b m h n R | _=>R e m h n):=by
 refine and_congr_right fun hm=>⟨?_,?_⟩
 ·rintro ⟨k,x,h',n',e,r⟩;cases k with
  |zero=>have e:(aO.fail "fuel":aO (bp×Tm)) = .ok x (S0 h' n'):=e;simp at e
  |succ k=>
   rw[dr] at e;simp only[br] at e;obtain⟨y,s₁,e₁,e₂⟩:=bE e;have hs:=MU e₁;refine⟨k,y,s₁.heap,s₁.next,hs ▸ e₁,?_⟩;cases hy:y.1 with
   |normal=>simp only[hy] at e₂ ⊢;exact⟨(MT k _ _ _ _ _ _ _ e₁).trans hm,k,x,h',n',hs ▸ e₂,r⟩
   |exit i=>simp only[hy,aO.ok.injEq] at e₂ ⊢;obtain⟨rfl,rfl⟩:=e₂;rw[hy] at r;exact r
   |ret=>simp only[hy,aO.ok.injEq] at e₂ ⊢;obtain⟨rfl,rfl⟩:=e₂;rw[hy] at r;exact r
 ·rintro ⟨k,y,h₁,n₁,e₁,r⟩;cases hy:y.1 with
  |normal=>
   simp only[hy] at r;obtain⟨_,k₂,x,h',n',e₂,r⟩:=r;refine⟨max k k₂+1,x,h',n',?_,r⟩;rw[dr];simp only[br];rw[iu (Nat.le_max_left k k₂) _ _ _ _ _ _ _ e₁,aS];simp only[hy];exact iu (Nat.le_max_right k k₂) _ _ _ _ _ _ _ e₂
  |exit i=>
   simp only[hy] at r;refine⟨k+1,y,h₁,n₁,?_,by rw[hy];exact r⟩;rw[dr];simp only[br];rw[e₁,aS];simp only[hy]
  |ret=>
   simp only[hy] at r;refine⟨k+1,y,h₁,n₁,?_,by rw[hy];exact r⟩;rw[dr];simp only[br];rw[e₁,aS];simp only[hy]
theorem SL{c:Code}:Ev z (.loop c) m h n R↔Ev z c m h n (fun e m h n=>match e with | .normal=>Ev z (.loop c) m h n R | _=>R e m h n):=by
 refine and_congr_right fun hm=>⟨?_,?_⟩
 ·rintro ⟨k,x,h',n',e,r⟩;cases k with
  |zero=>have e:(aO.fail "fuel":aO (bp×Tm)) = .ok x (S0 h' n'):=e;simp at e
  |succ k=>
   rw[dr] at e;simp only[br] at e;obtain⟨y,s₁,e₁,e₂⟩:=bE e;have hs:=MU e₁;refine⟨k,y,s₁.heap,s₁.next,hs ▸ e₁,?_⟩;cases hy:y.1 with
   |normal=>simp only[hy] at e₂ ⊢;exact⟨(MT k _ _ _ _ _ _ _ e₁).trans hm,k,x,h',n',hs ▸ e₂,r⟩
   |exit i=>simp only[hy,aO.ok.injEq] at e₂ ⊢;obtain⟨rfl,rfl⟩:=e₂;rw[hy] at r;exact r
   |ret=>simp only[hy,aO.ok.injEq] at e₂ ⊢;obtain⟨rfl,rfl⟩:=e₂;rw[hy] at r;exact r
 ·rintro ⟨k,y,h₁,n₁,e₁,r⟩;cases hy:y.1 with
  |normal=>
   simp only[hy] at r;obtain⟨_,k₂,x,h',n',e₂,r⟩:=r;refine⟨max k k₂+1,x,h',n',?_,r⟩;rw[dr];simp only[br];rw[iu (Nat.le_max_left k k₂) _ _ _ _ _ _ _ e₁,aS];simp only[hy];exact iu (Nat.le_max_right k k₂) _ _ _ _ _ _ _ e₂
  |exit i=>
   simp only[hy] at r;refine⟨k+1,y,h₁,n₁,?_,by rw[hy];exact r⟩;rw[dr];simp only[br];rw[e₁,aS];simp only[hy]
  |ret=>
   simp only[hy] at r;refine⟨k+1,y,h₁,n₁,?_,by rw[hy];exact r⟩;rw[dr];simp only[br];rw[e₁,aS];simp only[hy]
theorem MX{id:Nat}{c:Code}:Ev z (.block id c) m h n R↔Ev z c m h n (fun e m h n=>match e with | .exit i=>R (cond (Nat.beq i id) .normal (.exit i)) m h n | _=>R e m h n):=by
 refine and_congr_right fun hm=>⟨?_,?_⟩
 ·rintro ⟨k,x,h',n',e,r⟩;cases k with
  |zero=>have e:(aO.fail "fuel":aO (bp×Tm)) = .ok x (S0 h' n'):=e;simp at e
  |succ k=>
   rw[dr] at e;simp only[br] at e;obtain⟨y,s₁,e₁,e₂⟩:=bE e;have hs:=MU e₁;refine⟨k,y,s₁.heap,s₁.next,hs ▸ e₁,?_⟩;cases hy:y.1 with
   |normal=>simp only[hy,aO.ok.injEq] at e₂ ⊢;obtain⟨rfl,rfl⟩:=e₂;rw[hy] at r;exact r
   |exit i=>simp only[hy,aO.ok.injEq] at e₂ ⊢;obtain⟨rfl,rfl⟩:=e₂;exact r
   |ret=>simp only[hy,aO.ok.injEq] at e₂ ⊢;obtain⟨rfl,rfl⟩:=e₂;rw[hy] at r;exact r
 ·rintro ⟨k,y,h₁,n₁,e₁,r⟩;cases hy:y.1 with
  |normal=>
   simp only[hy] at r;refine⟨k+1,y,h₁,n₁,?_,by rw[hy];exact r⟩;rw[dr];simp only[br];rw[e₁,aS];simp only[hy]
  |exit i=>
   simp only[hy] at r;refine⟨k+1,(cond (Nat.beq i id) .normal (.exit i),y.2),h₁,n₁,?_,r⟩;rw[dr];simp only[br];rw[e₁,aS];simp only[hy]
  |ret=>
   simp only[hy] at r;refine⟨k+1,y,h₁,n₁,?_,by rw[hy];exact r⟩;rw[dr];simp only[br];rw[e₁,aS];simp only[hy]
theorem SM{c:Operand}{a b:Code}:Ev z (.cond c a b) m h n R↔bz c=true∧∃ t,m.eval c = .bool t∧Ev z (cond t a b) m h n R:=by
 constructor
 ·rintro ⟨hm,k,x,h',n',e,r⟩;cases k with
  |zero=>have e:(aO.fail "fuel":aO (bp×Tm)) = .ok x (S0 h' n'):=e;simp at e
  |succ k=>
   rw[dr] at e;simp only[br] at e;cases hg:bz c with
   |false=>rw[hg] at e;simp at e
   |true=>
    rw[hg] at e;simp only[cond_true] at e;refine⟨rfl,?_⟩;generalize m.eval c=v at e ⊢;cases v with
    |bool t=>cases t<;>exact⟨_,rfl,hm,k,x,h',n',e,r⟩
    | _=>simp at e
 ·rintro ⟨hg,t,ht,hm,k,x,h',n',e,r⟩;refine⟨hm,k+1,x,h',n',?_,r⟩;rw[dr];simp only[br,hg,cond_true,ht];cases t<;>exact e
theorem SN{a b:Code}:iZ z (.seq a b) K m h n↔iZ z a (.seq b::K) m h n:=by
 unfold iZ;rw[Yl];refine⟨Ev.mono fun e m h n r=>?_,Ev.mono fun e m h n r=>?_⟩<;>cases e<;>exact r
theorem Ka{id:Nat}{c:Code}:iZ z (.block id c) K m h n↔iZ z c (.block id::K) m h n:=by
 unfold iZ;rw[MX];refine⟨Ev.mono fun e m h n r=>?_,Ev.mono fun e m h n r=>?_⟩<;>cases e<;>exact r
theorem eR{c:Code}:iZ z (.loop c) K m h n↔iZ z c (.loop c::K) m h n:=by
 unfold iZ;rw[SL];refine⟨Ev.mono fun e m h n r=>?_,Ev.mono fun e m h n r=>?_⟩<;>cases e<;>exact r
theorem Kc{c:Code}:iZ z (.scope c) K m h n↔iZ z c K m h n:=MW
theorem By:∀ {K:List KF} {e:bp},Rs z K e m h n→m.n=z.N
 | [],e,r=>r.1
 | .seq c::K,e,r=>by cases e<;>first|exact r.1|exact By (K:=K) r
 | .block id::K,e,r=>by cases e<;>exact By (K:=K) r
 | .loop c::K,e,r=>by cases e<;>first|exact r.1|exact By (K:=K) r
theorem MY:iZ z .skip K m h n↔Rs z K .normal m h n:=SJ.trans ⟨fun r=>r.2,fun r=>⟨By r,r⟩⟩
theorem Ke{l:Nat}:iZ z (.label l) K m h n↔Rs z K .normal m h n:=MV.trans ⟨fun r=>r.2,fun r=>⟨By r,r⟩⟩
theorem MZ{i:Nat}:iZ z (.exit i) K m h n↔Rs z K (.exit i) m h n:=SK.trans ⟨fun r=>r.2,fun r=>⟨By r,r⟩⟩
theorem SP:iZ z .ret K m h n↔Rs z K .ret m h n:=Yk.trans ⟨fun r=>r.2,fun r=>⟨By r,r⟩⟩
theorem Ym{c:Code}:Rs z (.seq c::K) .normal m h n↔iZ z c K m h n:=Iff.rfl
theorem DI{c:Code}{i:Nat}:Rs z (.seq c::K) (.exit i) m h n↔Rs z K (.exit i) m h n:=Iff.rfl
theorem Gy{c:Code}:Rs z (.seq c::K) .ret m h n↔Rs z K .ret m h n:=Iff.rfl
theorem M_{id:Nat}:Rs z (.block id::K) .normal m h n↔Rs z K .normal m h n:=Iff.rfl
theorem Bz{id:Nat}:Rs z (.block id::K) .ret m h n↔Rs z K .ret m h n:=Iff.rfl
theorem zD{id i:Nat}:Rs z (.block id::K) (.exit i) m h n↔Rs z K (cond (Nat.beq i id) .normal (.exit i)) m h n:=Iff.rfl
theorem SQ{c:Code}:Rs z (.loop c::K) .normal m h n↔iZ z (.loop c) K m h n:=Iff.rfl
theorem BA{c:Code}{i:Nat}:Rs z (.loop c::K) (.exit i) m h n↔Rs z K (.exit i) m h n:=Iff.rfl
theorem DJ{c:Code}:Rs z (.loop c::K) .ret m h n↔Rs z K .ret m h n:=Iff.rfl
theorem Yn{e:bp}:Rs z [] e m h n↔m.n=z.N∧z.Q e m h n:=Iff.rfl
def DK(z:Zx)(v:Value)(a b:Code)(K:List KF)(m:Tm)(h:PT aj)(n:Nat):Prop:=∃ t,v = .bool t∧iZ z (cond t a b) K m h n
theorem Na{c:Operand}{a b:Code}:iZ z (.cond c a b) K m h n↔bz c=true∧DK z (m.eval c) a b K m h n:=SM
theorem xA{a b:Code}:DK z (.bool true) a b K m h n↔iZ z a K m h n:=⟨fun ⟨t,e,r⟩=>by cases e;exact r,fun r=>⟨true,rfl,r⟩⟩
theorem tW{a b:Code}:DK z (.bool false) a b K m h n↔iZ z b K m h n:=⟨fun ⟨t,e,r⟩=>by cases e;exact r,fun r=>⟨false,rfl,r⟩⟩
theorem DL{a b:Code}{t:Bool}(h1:t=true→iZ z a K m h n)(h2:t=false→iZ z b K m h n):DK z (.bool t) a b K m h n:=by
 refine⟨t,rfl,?_⟩;cases t<;>first|exact h1 rfl|exact h2 rfl
theorem SR{a b:Code}{p:Prop}[Decidable p](h1:p→iZ z a K m h n)(h2: ¬ p→iZ z b K m h n):DK z (.bool (decide p)) a b K m h n:=
 DL (fun e=>h1 (of_decide_eq_true e)) fun e=>h2 (of_decide_eq_false e)
theorem Gz{id:Nat}{ops:Array Oper}:iZ z (.region id ops false) K m h n↔RA z ops.toList ops.toList K m h n:=by
 refine and_congr_right fun hm=>⟨?_,?_⟩
 ·rintro ⟨k,x,h',n',e,r⟩;cases k with
  |zero=>have e:(aO.fail "fuel":aO (bp×Tm)) = .ok x (S0 h' n'):=e;simp at e
  |succ k=>
   rw[dr] at e;simp only[br,cond_false] at e;obtain⟨m',s₁,e₁,e₂⟩:=bE e;simp only[aO.ok.injEq] at e₂;obtain⟨rfl,rfl⟩:=e₂;exact⟨k,m',h',n',e₁,r⟩
 ·rintro ⟨k,m',h',n',e,r⟩;refine⟨k+1,(.normal,m'),h',n',?_,r⟩;rw[dr];simp only[br,cond_false,e,aS]
theorem SU{ops:List Oper}:RA z ops [] K m h n↔Rs z K .normal m h n:=by
 constructor
 ·rintro ⟨hm,k,m',h',n',e,r⟩;simp only[jl,S0,aO.ok.injEq,HS.mk.injEq] at e;obtain⟨rfl,rfl,rfl,_⟩:=e;exact r
 ·intro r;exact⟨By r,0,m,h,n,rfl,r⟩
def lQ(z:Zx)(w:Bool)(o:Oper)(ops r:List Oper)(K:List KF)(m:Tm)(h:PT aj)(n:Nat):Prop:=
 cond w (o.op.operands.toList.all bz=true∧jZ z (k7 z.P m.eval o) o.dst ops r K m h n) (jZ z (.pure .skip) o.dst ops r K m h n)
theorem Nb{o:Oper}{ops r:List Oper}:RA z ops (o::r) K m h n↔lQ z (b_ ops m o) o ops r K m h n:=by
 unfold lQ;cases hw:b_ ops m o with
 |false=>
  simp only[cond_false];refine and_congr_right fun hm=>?_;simp only[jl,lW,hw,cond_false,AP.run,aS,fU]
 |true=>
  simp only[cond_true];constructor
  ·rintro ⟨hm,k,m',h',n',e,r⟩;simp only[jl,lW,hw,cond_true,jr] at e;cases hf:o.op.operands.toList.all bz with
   |false=>rw[hf] at e;simp[bP] at e
   |true=>
    rw[hf] at e;simp only[cond_true,gS] at e;exact⟨rfl,hm,k,m',h',n',e,r⟩
  ·rintro ⟨hf,hm,k,m',h',n',e,r⟩;refine⟨hm,k,m',h',n',?_,r⟩;simp only[jl,lW,hw,cond_true,jr,hf,gS];exact e
theorem Nc{o:Oper}{ops r:List Oper}:lQ z true o ops r K m h n↔o.op.operands.toList.all bz=true∧jZ z (k7 z.P m.eval o) o.dst ops r K m h n:=Iff.rfl
theorem Kf{o:Oper}{ops r:List Oper}:lQ z false o ops r K m h n↔jZ z (.pure .skip) o.dst ops r K m h n:=Iff.rfl
def up(m:Tm)(i:Nat)(v:Value):Tm:={ m with t:=m.t.set i (some v) }
variable {d:Option Nat} {ops r:List Oper}
theorem DM{i:Nat}{v:Value}:(up m i v).get i=v:=by simp[up,Tm.get,PT.fN]
theorem Kg{i j:Nat}{v:Value}(hij:i≠j):(up m i v).get j=m.get j:=by simp[up,Tm.get,PT.cB _ _ hij]
theorem Yo{i:Nat}{v:Value}:(up m i v).n=m.n:=rfl
theorem Yp{i:Nat}{v:Value}:(up m i v).fF=m.fF:=rfl
theorem Ac{i:Nat}{v:Value}:jZ z (.pure (.value v)) (some i) ops r K m h n↔i<z.N∧RA z ops r K (up m i v) h n:=by
 unfold jZ RA;simp only[AP.run,aS,fU,jt,Tm.put,Yo];constructor
 ·rintro ⟨hm,k,m',h',n',e,q⟩;cases hb:Nat.blt i m.n with
  |false=>rw[hb] at e;simp[bP] at e
  |true=>
   rw[hb] at e;have:=Nat.le_of_ble_eq_true hb;exact⟨by omega,hm,k,m',h',n',e,q⟩
 ·rintro ⟨hi,hm,k,m',h',n',e,q⟩;have hb:Nat.blt i m.n=true:=Nat.ble_eq_true_of_le qJ;exact⟨hm,k,m',h',n',by rw[hb];exact e,q⟩
theorem GD{v:Value}:jZ z (.pure (.value v)) none ops r K m h n↔RA z ops r K m h n:=Iff.rfl
theorem Nf{i:Nat}:jZ z (.pure .skip) (some i) ops r K m h n↔i<z.N∧RA z ops r K (up m i dY) h n:=Ac (v:=dY)
theorem Kh:jZ z (.pure .skip) none ops r K m h n↔RA z ops r K m h n:=Iff.rfl
theorem Ng{w:String}:jZ z (.fail w) d ops r K m h n↔False:=by
 constructor
 ·rintro ⟨_,k,m',h',n',e,_⟩;simp[AP.run,bP] at e
 ·exact False.elim
def EvL(z:Zx)(b:Option aj)(f:aj→AP aG)(d:Option Nat)(ops r:List Oper)(K:List KF)(m:Tm)(h:PT aj)(n:Nat):Prop:=
 match b with
 |some b=>jZ z (f b) d ops r K m h n
 |none=>False
theorem BD{id:Nat}{f:aj→AP aG}:jZ z (.get id f) d ops r K m h n↔EvL z (h.get id) f d ops r K m h n:=by
 unfold EvL jZ;simp only[AP.run,show (S0 h n).heap=h from rfl];cases hb:h.get id with
 |none=>simp[bP]
 |some b=>simp only[show Nat.blt id 0=false from rfl,cond_false]
theorem xB{b:aj}{f:aj→AP aG}:EvL z (some b) f d ops r K m h n↔jZ z (f b) d ops r K m h n:=Iff.rfl
def Yq(z:Zx)(o:Option aj)(id:Nat)(b:Option aj)(p:AP aG)(d:Option Nat)(ops r:List Oper)(K:List KF)(m:Tm)(h:PT aj)(n:Nat):Prop:=
 match o with
 |some _=>jZ z p d ops r K m (h.set id b) n
 |none=>False
theorem SV{id:Nat}{b:aj}{p:AP aG}:jZ z (.set id b p) d ops r K m h n↔Yq z (h.get id) id (some b) p d ops r K m h n:=by
 unfold Yq jZ;simp only[AP.run,show (S0 h n).heap=h from rfl];cases hb:h.get id with
 |none=>simp[bP]
 |some c=>simp only[show Nat.blt id 0=false from rfl,cond_false];exact Iff.rfl
theorem Nh{id:Nat}{p:AP aG}:jZ z (.kill id p) d ops r K m h n↔Yq z (h.get id) id none p d ops r K m h n:=by
 unfold Yq jZ;simp only[AP.run,show (S0 h n).heap=h from rfl];cases hb:h.get id with
 |none=>simp[bP]
 |some c=>simp only[show Nat.blt id 0=false from rfl,cond_false];exact Iff.rfl
theorem Ni{c:aj}{id:Nat}{b:Option aj}{p:AP aG}:Yq z (some c) id b p d ops r K m h n↔jZ z p d ops r K m (h.set id b) n:=Iff.rfl
theorem SW{b:aj}{f:Nat→AP aG}:jZ z (.new b f) d ops r K m h n↔jZ z (f n) d ops r K m (h.set n (some b)) (n+1):=Iff.rfl
def V6(z:Zx)(s:Option (AP Value))(f:FuncId)(args:List Value)(d:Option Nat)(ops r:List Oper)(K:List KF)(m:Tm)(h:PT aj)(n:Nat):Prop:=
 match s with
 |some p=>jZ z (p.bind fun v => .pure (.value v)) d ops r K m h n
 |none=>jZ z (.pure (.enter f args)) d ops r K m h n
theorem run_bind{α β:Type}{lim:Nat}:∀ (p:AP α) (f:α→AP β) (s:HS),(p.bind f).run lim s=bP (p.run lim s) fun a s=>(f a).run lim s
 | .pure a,f,s=>rfl
 | .fail w,f,s=>rfl
 | .get id k,f,s=>by
  simp only[AP.bind,AP.run];cases s.heap.get id with
  |none=>rfl
  |some b=>exact run_bind (k b) f _
 | .set id b k,f,s=>by
  simp only[AP.bind,AP.run];cases s.heap.get id with
  |none=>rfl
  |some _=>exact run_bind k f _
 | .kill id k,f,s=>by
  simp only[AP.bind,AP.run];cases s.heap.get id with
  |none=>rfl
  |some _=>exact run_bind k f _
 | .new b k,f,s=>by
  simp only[AP.bind,AP.run];exact run_bind (k s.next) f _
theorem Ki{f:FuncId}{args:List Value}:jZ z (.pure (.enter f args)) d ops r K m h n↔V6 z (z.O f args) f args d ops r K m h n:=by
 unfold V6;cases hO:z.O f args with
 |none=>exact Iff.rfl
 |some p=>
  simp only[jZ,run_bind,gS,AP.run,aS,fU,fT,hO]
theorem DN{p:AP Value}{f:FuncId}{args:List Value}:V6 z (some p) f args d ops r K m h n↔jZ z (p.bind fun v => .pure (.value v)) d ops r K m h n:=Iff.rfl
end rules
end Go.Am
