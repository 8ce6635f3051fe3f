/-
  The abstract machine: ranges over functions, code, and what a closed law comes to.
-/
import Derived.Test.YtbceiadaihphaaaGreatAmV
import Derived.RangeFuncNested
import Derived.RowKit3
import Derived.Scope
import Derived.ChangeSame
set_option linter.unusedSimpArgs false
set_option linter.unusedVariables false
namespace Go.Am
open Go.RowKit Go.ChangeShapes Go.WideShapes
section
variable {P:Program} {O:dK} {ev:ke} {Γ:bu} {W w:World} {H:PT aj}
theorem Bc {ro r:Option Nat} {m:Tm} {tmps:Array Value} {ds:List Deferred} {ps:Array Tmp} {assign body:Code} (fn:FuncId) (hro:F2 Γ ro r) (ht:fE Γ m tmps) (hd:F1 Γ m.gD ds):
  fK P Γ (uh ro m ps.toList assign body) (Instr.enterLoop fn tmps ps assign body r) (fun aS x y=>aS.bW x.1=some (y.1,0)∧F1 aS x.2 (y.2++ds)):=by
 intro W h n w hS
 unfold uh
 cases hro with
 |yes l₀ Z4 hl=>
  refine ak.get fun B hB=>?_
  split
  ·rename_i st ig tm ps' as bd
   obtain⟨L,h1,_⟩:=ku hS hl hB
   refine ak.new fun hn=>?_
   obtain⟨aS,hst,hb,kR⟩:=hS.gG hn (.loop { state := .ready,pending:=none,fn,tmps,params:=ps,assign,body,defers:=L.defers }) (.loop .ready none m ps.toList assign body) rfl
    (fun aS w' hle h1=>⟨rfl,_,h1,rfl,rfl,ht.mono hle,rfl,rfl,rfl⟩)
   exact⟨aS,_,pure (w.heap.size,[]),hst,run_enterLoop_inner h1 _ _ _ _ _,ak.ok kR rfl ⟨hb,hd.mono hst.le⟩⟩
  ·exact ak.fail
 |no=>
  refine ak.new fun hn=>?_
  obtain⟨cC,hst,hb,PS⟩:=hS.gG hn (.deferred (some [])) .deferred rfl (fun aS w' _ h1=>⟨rfl,h1⟩)
  have hsz:(w.alloc (.deferred (some []))).heap.size=w.heap.size+1:=by simp
  refine⟨cC,w.alloc (.deferred (some [])),(do pure (←newObj (.loop { state := .ready,pending:=none,fn,tmps,params:=ps,assign,body,defers:=w.heap.size }),[({ target := .collected w.heap.size,args:=#[] }:Deferred)]):Sem (Nat×List Deferred)),hst,?_,?_⟩
  ·rw[run_enterLoop_outer]
   simp only[Sem.run_bind,run_newObj_alloc,Result.andThen,Sem.run_pure,hsz]
  refine ak.new fun hn'=>?_
  obtain⟨dD,yE,hb₂,vW⟩:=PS.gG hn' (.loop { state := .ready,pending:=none,fn,tmps,params:=ps,assign,body,defers:=w.heap.size }) (.loop .ready none m ps.toList assign body) rfl
   (fun aS w' hle h1=>⟨rfl,_,h1,rfl,rfl,(ht.mono hst.le).mono hle,rfl,rfl,rfl⟩)
  exact⟨dD,_,pure (w.heap.size+1,[{ target := .collected w.heap.size,args:=#[] }]),yE,
   (by simp only[Sem.run_bind,run_newObj_alloc,Result.andThen,Sem.run_pure,hsz]),
   ak.ok vW rfl ⟨by rw[hb₂];simp,.cons _ _ _ _ (yE.le.bW _ _ hb) ((hd.mono hst.le).mono yE.le)⟩⟩
theorem yF {x x':Value} {l l':Nat} (hl:Γ.bW l=some (l',0)) (hx:aF Γ x x'):
  (∃ fn' f' c',x' = .func fn' ⟨f'⟩ ⟨c'⟩∧fK P Γ (gW P x l) (invoke (.fn fn' ⟨c'⟩) ⟨f'++[.func (.yield l') ⟨[]⟩ ⟨[]⟩]⟩ >>= pure) (fun Γ fa nx=>∃ args',nx = .enter fa.1 ⟨args'⟩∧aH Γ fa.2 args'))∨
   ∃ why,gW P x l = .fail why:=by
 cases hx with
 |func fn fn' f f' c c' hf hc hp=>
  refine .inl ⟨fn',f',c',rfl,fun W h n w hS=>?_⟩
  unfold gW
  refine ak.bind (ql (P:=P) hp hc (hf.append (.cons _ _ _ _ (.func _ _ _ _ _ _ .nil .nil (.yield _ _ hl)) .nil)) W h n w hS) ?_
  intro aS nx nx' hle Dv W h n w hS
  cases Dv with
  |enter f args args' ha=>exact ak.ok hS rfl ⟨args',rfl,ha⟩
  | _=>exact ak.fail
 | _=>exact .inr ⟨_,rfl⟩
theorem wk (hO:eU P O) (cR:gk P ev) (hlo:gJ ev) {ro r:Option Nat} {lim:Nat} {g:Operand} {ps:Array Tmp} {assign body:Code} {m:Tm} {a:Act} {s s':HS} {x:bJ×Tm} (e:fQ P O ev ro lim g ps.toList assign body m s = .ok x s') (hl:lim≤s.next) (hw:Wf s)
  (hS:bq Γ W H w) (hx:Ext s.heap H) (hm:rK Γ m a) (hro:F2 Γ ro r) (hf:Free Γ s.next s'.next) {Q:Exit→Act→World→Prop}
  (hk:∀ aS w' a' H',Ex Γ aS lim s s' W H H' w'→rK aS x.2 a'→Q (uA x.1) a' w'):(Code.rangeFunc g ps assign body).wpIn (Fw r) 0 P Q a w:=by
 unfold fQ at e
 cases hg:bt g with
 |false=>simp[hg] at e
 |true=>
  simp only[hg,cond_true] at e
  obtain⟨ld,s₁,e₁,e⟩:=bz e
  obtain⟨fa,s₂,e₂,e⟩:=bz e
  obtain⟨v,s₃,e₃,e⟩:=bz e
  obtain⟨y,s₄,e₄,e⟩:=bz e
  simp only[bw.ok.injEq] at e
  obtain⟨rfl,rfl⟩:=e
  obtain⟨hn₁,fm⟩:=fB (dL _) e₁ hl hw
  obtain⟨hn₂,vZ⟩:=fB (dL _) e₂ (by omega) fm
  obtain⟨PI,v5⟩:=fB (rJ hlo _ _) e₃ (by omega) vZ
  obtain⟨PJ,_⟩:=fB (dL _) e₄ (by omega) v5
  refine wpIn_rangeFunc ?_
  intro fn _
  obtain⟨cC,w₁,lm,H₁,GV,cJ,hb₁,hd₁⟩:=mM (Bc (P:=P) (ps:=ps) (assign:=assign) (body:=body) fn hro hm.tm hm.df) e₁ hl hw hS hx (hf.sub (by omega))
  have hvg:aF cC (m.eval g) (a.eval g):=(rO hm.tm g hg).mono cJ.le
  rcases yF (P:=P) hb₁ hvg with ⟨fn',f',c',W9,W_⟩ | ⟨why,PU⟩
  ·obtain⟨dD,w₂,nx,H₂,kA,dN,args',rfl,ha⟩:=mM W_ e₂ (by omega) fm cJ.rel cJ.sub (hf.after cJ |>.sub (by omega))
   have jN:=cJ.trans dN
   have hinv:(invoke (.fn fn' ⟨c'⟩) ⟨f'++[.func (.yield lm.1) ⟨[]⟩ ⟨[]⟩]⟩).run P w₁ = .ok (.enter fa.1 ⟨args'⟩) w₂:=by
    rw[Sem.run_bind] at kA
    cases hi:(invoke (.fn fn' ⟨c'⟩) ⟨f'++[.func (.yield lm.1) ⟨[]⟩ ⟨[]⟩]⟩).run P w₁ with
    |ok u w'=>rw[hi] at kA;simpa using kA
    |halt u w'=>rw[hi] at kA;simp[Result.andThen] at kA
   refine⟨lm.1,lm.2,w₁,{ target := .fn fn' ⟨c'⟩,args:=⟨f'++[.func (.yield lm.1) ⟨[]⟩ ⟨[]⟩]⟩ },w₁,fa.1,⟨args'⟩,w₂,GV,?_,fun _ _=>trivial,hinv,fun h=>by simp[Fw] at h,?_⟩
   ·simp only[resolve,W9]
    have oD:((⟨f'⟩:Array Value)++(rangeCall g lm.1).args.map a.eval)=⟨f'++[.func (.yield lm.1) ⟨[]⟩ ⟨[]⟩]⟩:=by
     apply Array.ext';simp[Act.eval]
    simp only[Deferred.ofValue,Sem.run_pure]
    rw[oD]
   ·refine CallsIn.mono (nN hO cR hlo e₃ (by omega) vZ dN.rel dN.sub ha (hf.after jN |>.sub (by omega)) r) ?_
    rintro en w₃ ⟨PK,v',WX,rfl,kB,_⟩
    have iE:=jN.trans kB
    have Dt:=(dN.le.trans kB.le).bW _ _ hb₁
    obtain⟨v7,GR,j,KM,uB,uC,rfl⟩:=mM (Ds (P:=P) Dt) e₄ (by omega) v5 kB.rel kB.sub (hf.after iE)
    have PW:=iE.trans uC
    have hfr:rK v7 { m with gD:=ld.2 } { a with defers:=lm.2++a.defers }:=by
     have hle:cC.le v7:=(dN.le.trans kB.le).trans uC.le
     exact⟨⟨hm.tm.size,(hm.tm.mono PW.le).get⟩,hd₁.mono hle⟩
    have q:=hk v7 GR { a with defers:=lm.2++a.defers } KM PW hfr
    refine⟨exitCode y,GR,uB,?_⟩
    cases y with
    |normal=>exact q
    |ret=>exact wpIn_ret q
    |exit id=>exact wpIn_exit q
  ·rw[PU] at e₂;simp[AP.run] at e₂
theorem yG {F:Fence} {n:Nat} {Q:Exit→Act→World→Prop} {a:Act} {c:Code} (h:c.wpIn F n P (Exit.noGoto Q) a w):(Code.scope c).wpIn F n P Q a w:=by
 intro b k cs hro hb hr
 have h1:step P (lone (b.atR a (.code (.scope c)::k)) cs w) = .next (lone (b.atR a (.code c :: .inScope c::k)) cs w):=step_lone_go (by simp[stepG,stepG.exec,Frame.atR])
 have h2:∀ a w,step P (lone (b.atR a (.inScope c::k)) cs w) = .next (lone (b.atR a k) cs w):=fun a w=>step_lone_go (by simp[stepG,stepG.exec,Frame.atR])
 have h0:(lone (b.atR a (.code (.scope c)::k)) cs w).fenced P F:=fenced_calm hb hr rfl
 obtain⟨e,a₁,w₁,hq,oD⟩:=h b (.inScope c::k) cs hro hb hr
 have hx:∀ id,exitTo id (.inScope c::k)=exitTo id k:=fun id=>by simp[exitTo]
 cases e with
 |normal=>exact⟨.normal,a₁,w₁,hq,.head h0 h1 (StepsIn.trans oD (.one (fenced_calm hb hr rfl) (h2 _ _)))⟩
 |exit id=>
  exact⟨.exit id,a₁,w₁,hq,fun k' hk => .head h0 h1 (oD.1 k' (by rw[hx];exact hk)),
   fun hr' hk=>let ⟨k₁,q1,q2⟩:=oD.2 hr' (by rw[hx];exact hk);⟨k₁,q1,.head h0 h1 q2⟩⟩
 |goto l=>exact hq.elim
 |ret=>exact⟨_,a₁,w₁,hq,.of_steps (.one h0 h1) oD⟩
 |panic ch=>exact⟨_,a₁,w₁,hq,.of_steps (.one h0 h1) oD⟩
 |outgrown=>exact⟨_,a₁,w₁,hq,.of_steps (.one h0 h1) oD⟩
def uF (P:Program) (O:dK) (k:Nat):Prop:=
 ∀ ro lim c m s x s',kX P O k ro lim (.loop c) m s = .ok x s'→lim≤s.next→Wf s→∀ Γ W w a r H,bq Γ W H w→Ext s.heap H→rK Γ m a→F2 Γ ro r→Free Γ s.next s'.next→
  ∀ Q:Exit→Act→World→Prop,(∀ aS w' a' H',Ex Γ aS lim s s' W H H' w'→rK aS x.2 a'→Q (uA x.1) a' w')→Code.roundsIn (Fw r) 0 P c Q k a w
theorem tL (cR:gk P ev) (hlo:gJ ev) {DA:ke} (KR:gJ DA) {ro:Option Nat} {lim:Nat} {c d:Code} {m:Tm} {s s':HS} {x:bJ×Tm}
  (e:bT (ev ro lim c m s) (fun x s=>match x.1 with | .normal=>DA ro lim d x.2 s | _ => .ok x s) = .ok x s') (hl:lim≤s.next) (hw:Wf s) {a:Act} {r:Option Nat}
  (hS:bq Γ W H w) (hx:Ext s.heap H) (hm:rK Γ m a) (hro:F2 Γ ro r) (hf:Free Γ s.next s'.next) {Q:Exit→Act→World→Prop} {K:Act→World→Prop}
  (hK:∀ x₁ s₁,DA ro lim d x₁ s₁ = .ok x s'→lim≤s₁.next→Wf s₁→∀ cC w₁ a₁ H₁,Ex Γ cC lim s s₁ W H H₁ w₁→rK cC x₁ a₁→K a₁ w₁)
  (hk:∀ aS w' a' H',Ex Γ aS lim s s' W H H' w'→rK aS x.2 a'→Q (uA x.1) a' w'):c.wpIn (Fw r) 0 P (Exit.then K Q) a w:=by
 obtain⟨x₁,s₁,e₁,e₂⟩:=bz e
 obtain⟨hn₁,fm⟩:=fB (hlo _ _ _ _) e₁ hl hw
 have hn₂:s₁.next≤s'.next:=by
  cases hx1:x₁.1 with
  |normal=>simp only[hx1] at e₂;exact(fB (KR _ _ _ _) e₂ (by omega) fm).1
  |ret=>simp only[hx1,bw.ok.injEq] at e₂;rw[e₂.2];exact Nat.le_refl _
  |exit id=>simp only[hx1,bw.ok.injEq] at e₂;rw[e₂.2];exact Nat.le_refl _
 refine cR ro lim c m s x₁ s₁ e₁ hl hw Γ W w a r H hS hx hm hro (hf.sub hn₂) _ ?_
 intro cC w₁ a₁ H₁ hex hfr
 cases hx1:x₁.1 with
 |normal=>
  simp only[hx1] at e₂
  exact hK x₁.2 s₁ e₂ (by omega) fm cC w₁ a₁ H₁ hex hfr
 |ret=>
  simp only[hx1,bw.ok.injEq] at e₂
  obtain⟨rfl,rfl⟩:=e₂
  have:=hk cC w₁ a₁ H₁ hex hfr
  rw[hx1] at this;exact this
 |exit id=>
  simp only[hx1,bw.ok.injEq] at e₂
  obtain⟨rfl,rfl⟩:=e₂
  have:=hk cC w₁ a₁ H₁ hex hfr
  rw[hx1] at this;exact this
theorem yH (hO:eU P O) (mZ:P.follows .mixedOrders=true) {k:Nat} (cR:gk P (kX P O k)) (hlp:uF P O k):gk P (kX P O (k+1))∧uF P O (k+1):=by
 have hlo:gJ (kX P O k):=pI k
 have hL:uF P O (k+1):=by
  intro ro lim c m s x s' e hl hw Γ W w a r H hS hx hm hro hf Q hk
  rw[roundsIn_succ]
  refine tL cR hlo hlo (d := .loop c) e hl hw hS hx hm hro hf (fun x₁ s₁ e₁ hl₁ fm cC w₁ a₁ H₁ hex hfr=>?_) hk
  exact hlp ro lim c x₁ s₁ x s' e₁ hl₁ fm cC W w₁ a₁ r H₁ hex.rel hex.sub hfr (hro.mono hex.le) (hf.after hex) Q fun dD w₂ a₂ H₂ dN yI=>hk dD w₂ a₂ H₂ (hex.trans dN) yI
 refine⟨?_,hL⟩
 intro ro lim c m s x s' e hl hw Γ W w a r H hS hx hm hro hf Q hk
 cases c with
 |loop c=>exact wpIn_loop_rounds (k+1) (hL ro lim c m s x s' e hl hw Γ W w a r H hS hx hm hro hf Q hk)
 |skip=>
  have e:bw.ok (bJ.normal,m) s = .ok x s':=e
  simp only[bw.ok.injEq] at e
  obtain⟨rfl,rfl⟩:=e
  exact wpIn_skip (hk Γ w a H (Ex.refl hS hx) hm)
 |label l=>
  have e:bw.ok (bJ.normal,m) s = .ok x s':=e
  simp only[bw.ok.injEq] at e
  obtain⟨rfl,rfl⟩:=e
  exact wpIn_label (hk Γ w a H (Ex.refl hS hx) hm)
 |exit id=>
  have e:bw.ok (bJ.exit id,m) s = .ok x s':=e
  simp only[bw.ok.injEq] at e
  obtain⟨rfl,rfl⟩:=e
  exact wpIn_exit (hk Γ w a H (Ex.refl hS hx) hm)
 |ret=>
  have e:bw.ok (bJ.ret,m) s = .ok x s':=e
  simp only[bw.ok.injEq] at e
  obtain⟨rfl,rfl⟩:=e
  exact wpIn_ret (hk Γ w a H (Ex.refl hS hx) hm)
 |region id ops draw=>
  obtain⟨ops⟩:=ops
  have e:bT (cond draw (ga P O (kX P O k) lim ops m s) (bX P O (kX P O k) lim ops ops m s)) (fun m s => .ok (.normal,m) s) = .ok x s':=e
  obtain⟨m₁,s₁,e₁,e₂⟩:=bz e
  simp only[bw.ok.injEq] at e₂
  obtain⟨rfl,rfl⟩:=e₂
  cases draw with
  |true=>exact yD hO cR hlo mZ e₁ hl hw hS hx hm hf r hk
  |false=>
   refine wpIn_region ?_
   have:List.range (⟨ops⟩:Array Oper).size=List.range' 0 ops.length:=by simp[List.range_eq_range']
   rw[this]
   exact tK hO cR hlo ops 0 Γ w m m₁ a s s₁ H rfl e₁ hl hw hS hx hm hf hk
 |seq c d=>
  refine wpIn_seq ?_
  refine tL cR hlo hlo (d:=d) e hl hw hS hx hm hro hf (fun x₁ s₁ e₁ hl₁ fm cC w₁ a₁ H₁ hex hfr=>?_) hk
  exact cR ro lim d x₁ s₁ x s' e₁ hl₁ fm cC W w₁ a₁ r H₁ hex.rel hex.sub hfr (hro.mono hex.le) (hf.after hex) Q fun dD w₂ a₂ H₂ dN yI=>hk dD w₂ a₂ H₂ (hex.trans dN) yI
 |cond g c d=>
  have e:cond (bt g) (match m.eval g with
   | .bool true=>kX P O k ro lim c m s
   | .bool false=>kX P O k ro lim d m s
   | _ => .fail "cond") (.fail "cond") = .ok x s':=e
  cases hg:bt g with
  |false=>simp[hg] at e
  |true=>
   simp only[hg,cond_true] at e
   have hv:=rO hm.tm g hg
   split at e
   ·rename_i he
    rw[he] at hv
    cases hu:a.eval g<;>rw[hu] at hv<;>cases hv
    exact wpIn_cond_true hu (cR ro lim c m s x s' e hl hw Γ W w a r H hS hx hm hro hf Q hk)
   ·rename_i he
    rw[he] at hv
    cases hu:a.eval g<;>rw[hu] at hv<;>cases hv
    exact wpIn_cond_false hu (cR ro lim d m s x s' e hl hw Γ W w a r H hS hx hm hro hf Q hk)
   ·simp at e
 |block id c=>
  have e:bT (kX P O k ro lim c m s) (fun x s=>match x.1 with
   | .exit i => .ok (cond (Nat.beq i id) .normal (.exit i),x.2) s
   | _ => .ok x s) = .ok x s':=e
  obtain⟨x₁,s₁,e₁,e₂⟩:=bz e
  have hs:s₁=s'∧x.2=x₁.2:=by
   cases hx1:x₁.1 with
   |normal=>simp only[hx1,bw.ok.injEq] at e₂;exact⟨e₂.2,by rw[←e₂.1]⟩
   |ret=>simp only[hx1,bw.ok.injEq] at e₂;exact⟨e₂.2,by rw[←e₂.1]⟩
   |exit i=>simp only[hx1,bw.ok.injEq] at e₂;exact⟨e₂.2,by rw[←e₂.1]⟩
  obtain⟨rfl,xK⟩:=hs
  refine wpIn_block ?_
  refine cR ro lim c m s x₁ s₁ e₁ hl hw Γ W w a r H hS hx hm hro hf _ ?_
  intro cC w₁ a₁ H₁ hex hfr
  have q:=hk cC w₁ a₁ H₁ hex (by rw[xK];exact hfr)
  cases hx1:x₁.1 with
  |normal=>simp only[hx1,bw.ok.injEq] at e₂;rw[←e₂.1,hx1] at q;exact q
  |ret=>simp only[hx1,bw.ok.injEq] at e₂;rw[←e₂.1,hx1] at q;exact q
  |exit i=>
   simp only[hx1,bw.ok.injEq] at e₂
   rw[←e₂.1] at q
   show if i=id then Q .normal a₁ w₁ else Q (.exit i) a₁ w₁
   cases hb:Nat.beq i id with
   |true=>
    have:=Nat.eq_of_beq_eq_true hb
    subst this
    rw[hb] at q
    rw[if_pos rfl];exact q
   |false=>
    rw[hb] at q
    have:i≠id:=fun h=>by rw[h,Nat.beq_refl] at hb;exact Bool.noConfusion hb
    rw[if_neg this];exact q
 |scope c=>
  have e:kX P O k ro lim c m s = .ok x s':=e
  refine yG ?_
  refine cR ro lim c m s x s' e hl hw Γ W w a r H hS hx hm hro hf _ ?_
  intro cC w₁ a₁ H₁ hex hfr
  have q:=hk cC w₁ a₁ H₁ hex hfr
  cases hx1:x.1<;>rw[hx1] at q<;>exact q
 |rangeFunc g ps assign body=>exact wk hO cR hlo e hl hw hS hx hm hro hf hk
 | _=>
  have e:(bw.fail "code":bw (bJ×Tm)) = .ok x s':=e
  simp at e
theorem oJ (hO:eU P O) (mZ:P.follows .mixedOrders=true):∀ k,gk P (kX P O k)∧uF P O k
 |0=>⟨fun ro lim c m s x s' e=>by
   have e:(bw.fail "fuel":bw (bJ×Tm)) = .ok x s':=e
   simp at e,fun ro lim c m s x s' e=>by
   have e:(bw.fail "fuel":bw (bJ×Tm)) = .ok x s':=e
   simp at e⟩
 |k+1=>let ⟨h1,h2⟩:=oJ hO mZ k;yH hO mZ h1 h2
end
def uG (W w':World):Prop:=W.keptBut w' (fun _=>False)∧(∀ a,a.block<W.heap.size→w'.frozen? a=W.frozen? a)∧W.heap.size≤w'.heap.size
theorem uG.frame {W w':World} (h:uG W w') (may:MemPlace→Prop):W.keptBut w' may:=World.keptBut_mono (fun _ f=>f.elim) h.1
theorem sZ {H:Type} {enc:TypeId×Value→H} {P:Program} {f:Func} {s:ChangeSpec} {apart fresh handsOn again:Bool} {W W':World} {args:Array Value} {v:Value} {ds gs:List (DataW H)} {before pa pv:List MemPlace}
  (hW:DataW.Whole enc P f.params.toList s.vars apart W args.toList ds gs before)
  (hres:∀ (b:Nat) (sp:Nat→Bool) (hd:Bool),DataW.TrodAll enc P W' b sp hd f.resultTypes.toList (v.resultList f.resultTypes.size) (s.fn H (ds++gs)).results [])
  (hargs:∀ sp:Nat→Bool,(∀ p∈before,sp p.block=true)→DataW.TrodAll enc P W' 0 sp true f.params.toList args.toList (s.fn H (ds++gs)).args pa)
  (hvars:∀ sp:Nat→Bool,(∀ p∈before,sp p.block=true)→DataW.TrodVars enc P W' sp s.vars (s.fn H (ds++gs)).vars pv)
  (hps:before=pa++pv) (hg:uG W W')
  (hok:∀ (j:Nat) (t:TypeId) (r:Value),f.resultTypes[j]? = some t→(v.resultList f.resultTypes.size)[j]? = some r→Value.okWide P W' .any 0 t r):
  s.post enc P f apart fresh handsOn again W args v W':=by
 have fR:∀ p∈before,p.block<W.heap.size:=fun p hp=>by simpa using hW.lt p hp
 have hold:∀ p∈before,(fun b=>decide (b<W.heap.size)) p.block=true:=fun p hp=>by simpa using fR p hp
 refine⟨ds,gs,before,[],pa,pv,hW,hres _ _ _,hargs _ hold,hvars _ hold,World.keptBut_mono (fun p hp=>⟨hp,?_⟩) (hg.frame (·∈before)),fun _=>?_⟩
 ·rw[hps,List.mem_append] at hp
  exact Or.inr hp
 ·obtain⟨_,_,_,_,_,hz,hn⟩:=hW
  refine⟨hok,_,_,([]++pa)++pv,⟨[]++pa,pv,trodAll_append (hargs _ (fun _ _=>rfl)) (hres _ _ _),hvars _ (fun _ _=>rfl),rfl,?_,?_⟩,?_⟩
  ·intro b off hp
   have hm:MemPlace.cell b off∈before:=by rw[hps];simpa using hp
   rw[hg.2.1 _ (fR _ hm)]
   exact hz b off hm
  ·intro ha
   have:=hn ha
   rw[hps] at this
   simpa using this
  ·intro p hp _
   rw[hps]
   simpa using hp
end Go.Am
