/-
  The abstract machine: ranges over functions, code, and what a closed law comes to.
-/
import Derived.Test.YtfhmopghjoeamaaGreatAmV
import Derived.RangeFuncNested
import Derived.RowKit3
import Derived.Scope
import Derived.ChangeSame
set_option linter.unusedSimpArgs false
set_option linter.unusedVariables false
namespace Go.Am
open Go.RowKit Go.ChangeShapes Go.WideShapes
section
variable {P:Program} {O:Over} {ev:jd} {Γ:aV} {W w:World} {H:PT aj}
theorem zN {ro r:Option Nat} {m:Tm} {tmps:Array Value} {ds:List Deferred} {ps:Array Tmp} {assign body:Code} (fn:FuncId) (hro:D8 Γ ro r) (ht:dU Γ m tmps) (hd:D7 Γ m.fO ds):
  dZ P Γ (wF ro m ps.toList assign body) (Instr.enterLoop fn tmps ps assign body r) (fun aI x y=>aI.blk x.1=some (y.1,0)∧D7 aI x.2 (y.2++ds)):=by
 intro W h n w hS
 unfold wF
 cases hro with
 |yes l₀ XS hl=>
  refine ah.get fun B hB=>?_
  split
  ·rename_i st fD tm ps' as bd
   obtain⟨L,h1,_⟩:=jl hS hl hB
   refine ah.new fun hn=>?_
   obtain⟨aI,hst,hb,gj⟩:=hS.eZ hn (.loop { state := .ready,pending:=none,fn,tmps,params:=ps,assign,body,defers:=L.defers }) (.loop .ready none m ps.toList assign body) rfl
    (fun aI w' hle h1=>⟨rfl,_,h1,rfl,rfl,ht.mono hle,rfl,rfl,rfl⟩)
   exact⟨aI,_,pure (w.heap.size,[]),hst,run_enterLoop_inner h1 _ _ _ _ _,ah.ok gj rfl ⟨hb,hd.mono hst.le⟩⟩
  ·exact ah.fail
 |no=>
  refine ah.new fun hn=>?_
  obtain⟨bP,hst,hb,MS⟩:=hS.eZ hn (.deferred (some [])) .deferred rfl (fun aI w' _ h1=>⟨rfl,h1⟩)
  have hsz:(w.alloc (.deferred (some []))).heap.size=w.heap.size+1:=by simp
  refine⟨bP,w.alloc (.deferred (some [])),(do pure (←newObj (.loop { state := .ready,pending:=none,fn,tmps,params:=ps,assign,body,defers:=w.heap.size }),[({ target := .collected w.heap.size,args:=#[] }:Deferred)]):Sem (Nat×List Deferred)),hst,?_,?_⟩
  ·rw[run_enterLoop_outer]
   simp only[Sem.run_bind,run_newObj_alloc,Result.andThen,Sem.run_pure,hsz]
  refine ah.new fun hn'=>?_
  obtain⟨cG,xx,hb₂,uR⟩:=MS.eZ hn' (.loop { state := .ready,pending:=none,fn,tmps,params:=ps,assign,body,defers:=w.heap.size }) (.loop .ready none m ps.toList assign body) rfl
   (fun aI w' hle h1=>⟨rfl,_,h1,rfl,rfl,(ht.mono hst.le).mono hle,rfl,rfl,rfl⟩)
  exact⟨cG,_,pure (w.heap.size+1,[{ target := .collected w.heap.size,args:=#[] }]),xx,
   (by simp only[Sem.run_bind,run_newObj_alloc,Result.andThen,Sem.run_pure,hsz]),
   ah.ok uR rfl ⟨by rw[hb₂];simp,.cons _ _ _ _ (xx.le.blk _ _ hb) ((hd.mono hst.le).mono xx.le)⟩⟩
theorem xy {x x':Value} {l l':Nat} (hl:Γ.blk l=some (l',0)) (hx:ay Γ x x'):
  (∃ fn' f' c',x' = .func fn' ⟨f'⟩ ⟨c'⟩∧dZ P Γ (gY P x l) (invoke (.fn fn' ⟨c'⟩) ⟨f'++[.func (.yield l') ⟨[]⟩ ⟨[]⟩]⟩ >>= pure) (fun Γ fa nx=>∃ args',nx = .enter fa.1 ⟨args'⟩∧aD Γ fa.2 args'))∨
   ∃ why,gY P x l = .fail why:=by
 cases hx with
 |func fn fn' f f' c c' hf hc hp=>
  refine .inl ⟨fn',f',c',rfl,fun W h n w hS=>?_⟩
  unfold gY
  refine ah.bind (ou (P:=P) hp hc (hf.append (.cons _ _ _ _ (.func _ _ _ _ _ _ .nil .nil (.yield _ _ hl)) .nil)) W h n w hS) ?_
  intro aI nx nx' hle AV W h n w hS
  cases AV with
  |enter f args args' ha=>exact ah.ok hS rfl ⟨args',rfl,ha⟩
  | _=>exact ah.fail
 | _=>exact .inr ⟨_,rfl⟩
theorem u6 (hO:cr P O) (dm:eM P ev) (hlo:fm ev) {ro r:Option Nat} {lim:Nat} {g:Operand} {ps:Array Tmp} {assign body:Code} {m:Tm} {a:Act} {s s':HS} {x:bw×Tm} (e:eF P O ev ro lim g ps.toList assign body m s = .ok x s') (hl:lim≤s.next) (hw:Wf s)
  (hS:aR Γ W H w) (hx:Ext s.heap H) (hm:qc Γ m a) (hro:D8 Γ ro r) (hf:Free Γ s.next s'.next) {Q:Exit→Act→World→Prop}
  (hk:∀ aI w' a' H',Ex Γ aI lim s s' W H H' w'→qc aI x.2 a'→Q (tj x.1) a' w'):(Code.rangeFunc g ps assign body).wpIn (Fw r) 0 P Q a w:=by
 unfold eF at e
 cases hg:a_ g with
 |false=>simp[hg] at e
 |true=>
  simp only[hg,cond_true] at e
  obtain⟨ld,s₁,e₁,e⟩:=aX e
  obtain⟨fa,s₂,e₂,e⟩:=aX e
  obtain⟨v,s₃,e₃,e⟩:=aX e
  obtain⟨y,s₄,e₄,e⟩:=aX e
  simp only[aW.ok.injEq] at e
  obtain⟨rfl,rfl⟩:=e
  obtain⟨hn₁,dO⟩:=dR (cL _) e₁ hl hw
  obtain⟨hn₂,uU⟩:=dR (cL _) e₂ (by omega) dO
  obtain⟨MK,uV⟩:=dR (qa hlo _ _) e₃ (by omega) uU
  obtain⟨ML,_⟩:=dR (cL _) e₄ (by omega) uV
  refine wpIn_rangeFunc ?_
  intro fn _
  obtain⟨bP,w₁,lm,H₁,ET,bV,hb₁,hd₁⟩:=kJ (zN (P:=P) (ps:=ps) (assign:=assign) (body:=body) fn hro hm.tm hm.df) e₁ hl hw hS hx (hf.sub (by omega))
  have hvg:ay bP (m.eval g) (a.eval g):=(qg hm.tm g hg).mono bV.le
  rcases xy (P:=P) hb₁ hvg with ⟨fn',f',c',T_,Ua⟩ | ⟨why,MT⟩
  ·obtain⟨cG,w₂,nx,H₂,jm,cM,args',rfl,ha⟩:=kJ Ua e₂ (by omega) dO bV.rel bV.sub (hf.after bV |>.sub (by omega))
   have iP:=bV.trans cM
   have hinv:(invoke (.fn fn' ⟨c'⟩) ⟨f'++[.func (.yield lm.1) ⟨[]⟩ ⟨[]⟩]⟩).run P w₁ = .ok (.enter fa.1 ⟨args'⟩) w₂:=by
    rw[Sem.run_bind] at jm
    cases hi:(invoke (.fn fn' ⟨c'⟩) ⟨f'++[.func (.yield lm.1) ⟨[]⟩ ⟨[]⟩]⟩).run P w₁ with
    |ok u w'=>rw[hi] at jm;simpa using jm
    |halt u w'=>rw[hi] at jm;simp[Result.andThen] at jm
   refine⟨lm.1,lm.2,w₁,{ target := .fn fn' ⟨c'⟩,args:=⟨f'++[.func (.yield lm.1) ⟨[]⟩ ⟨[]⟩]⟩ },w₁,fa.1,⟨args'⟩,w₂,ET,?_,fun _ _=>trivial,hinv,fun h=>by simp[Fw] at h,?_⟩
   ·simp only[resolve,T_]
    have mB:((⟨f'⟩:Array Value)++(rangeCall g lm.1).args.map a.eval)=⟨f'++[.func (.yield lm.1) ⟨[]⟩ ⟨[]⟩]⟩:=by
     apply Array.ext';simp[Act.eval]
    simp only[Deferred.ofValue,Sem.run_pure]
    rw[mB]
   ·refine CallsIn.mono (lH hO dm hlo e₃ (by omega) uU cM.rel cM.sub ha (hf.after iP |>.sub (by omega)) r) ?_
    rintro en w₃ ⟨MN,v',TY,rfl,jo,_⟩
    have gp:=iP.trans jo
    have BF:=(cM.le.trans jo.le).blk _ _ hb₁
    obtain⟨uW,ER,j,IF,tq,tA,rfl⟩:=kJ (BD (P:=P) BF) e₄ (by omega) uV jo.rel jo.sub (hf.after gp)
    have MU:=gp.trans tA
    have hfr:qc uW { m with fO:=ld.2 } { a with defers:=lm.2++a.defers }:=by
     have hle:bP.le uW:=(cM.le.trans jo.le).trans tA.le
     exact⟨⟨hm.tm.size,(hm.tm.mono MU.le).get⟩,hd₁.mono hle⟩
    have q:=hk uW ER { a with defers:=lm.2++a.defers } IF MU hfr
    refine⟨exitCode y,ER,tq,?_⟩
    cases y with
    |normal=>exact q
    |ret=>exact wpIn_ret q
    |exit id=>exact wpIn_exit q
  ·rw[MT] at e₂;simp[AP.run] at e₂
theorem xA {F:Fence} {n:Nat} {Q:Exit→Act→World→Prop} {a:Act} {c:Code} (h:c.wpIn F n P (Exit.noGoto Q) a w):(Code.scope c).wpIn F n P Q a w:=by
 intro b k cs hro hb hr
 have h1:step P (lone (b.atR a (.code (.scope c)::k)) cs w) = .next (lone (b.atR a (.code c :: .inScope c::k)) cs w):=step_lone_go (by simp[stepG,stepG.exec,Frame.atR])
 have h2:∀ a w,step P (lone (b.atR a (.inScope c::k)) cs w) = .next (lone (b.atR a k) cs w):=fun a w=>step_lone_go (by simp[stepG,stepG.exec,Frame.atR])
 have h0:(lone (b.atR a (.code (.scope c)::k)) cs w).fenced P F:=fenced_calm hb hr rfl
 obtain⟨e,a₁,w₁,hq,mB⟩:=h b (.inScope c::k) cs hro hb hr
 have hx:∀ id,exitTo id (.inScope c::k)=exitTo id k:=fun id=>by simp[exitTo]
 cases e with
 |normal=>exact⟨.normal,a₁,w₁,hq,.head h0 h1 (StepsIn.trans mB (.one (fenced_calm hb hr rfl) (h2 _ _)))⟩
 |exit id=>
  exact⟨.exit id,a₁,w₁,hq,fun k' hk => .head h0 h1 (mB.1 k' (by rw[hx];exact hk)),
   fun hr' hk=>let ⟨k₁,q1,q2⟩:=mB.2 hr' (by rw[hx];exact hk);⟨k₁,q1,.head h0 h1 q2⟩⟩
 |goto l=>exact hq.elim
 |ret=>exact⟨_,a₁,w₁,hq,.of_steps (.one h0 h1) mB⟩
 |panic ch=>exact⟨_,a₁,w₁,hq,.of_steps (.one h0 h1) mB⟩
 |outgrown=>exact⟨_,a₁,w₁,hq,.of_steps (.one h0 h1) mB⟩
def tD (P:Program) (O:Over) (k:Nat):Prop:=
 ∀ ro lim c m s x s',jL P O k ro lim (.loop c) m s = .ok x s'→lim≤s.next→Wf s→∀ Γ W w a r H,aR Γ W H w→Ext s.heap H→qc Γ m a→D8 Γ ro r→Free Γ s.next s'.next→
  ∀ Q:Exit→Act→World→Prop,(∀ aI w' a' H',Ex Γ aI lim s s' W H H' w'→qc aI x.2 a'→Q (tj x.1) a' w')→Code.roundsIn (Fw r) 0 P c Q k a w
theorem rO (dm:eM P ev) (hlo:fm ev) {BL:jd} (IL:fm BL) {ro:Option Nat} {lim:Nat} {c d:Code} {m:Tm} {s s':HS} {x:bw×Tm}
  (e:bF (ev ro lim c m s) (fun x s=>match x.1 with | .normal=>BL ro lim d x.2 s | _ => .ok x s) = .ok x s') (hl:lim≤s.next) (hw:Wf s) {a:Act} {r:Option Nat}
  (hS:aR Γ W H w) (hx:Ext s.heap H) (hm:qc Γ m a) (hro:D8 Γ ro r) (hf:Free Γ s.next s'.next) {Q:Exit→Act→World→Prop} {K:Act→World→Prop}
  (hK:∀ x₁ s₁,BL ro lim d x₁ s₁ = .ok x s'→lim≤s₁.next→Wf s₁→∀ bP w₁ a₁ H₁,Ex Γ bP lim s s₁ W H H₁ w₁→qc bP x₁ a₁→K a₁ w₁)
  (hk:∀ aI w' a' H',Ex Γ aI lim s s' W H H' w'→qc aI x.2 a'→Q (tj x.1) a' w'):c.wpIn (Fw r) 0 P (Exit.then K Q) a w:=by
 obtain⟨x₁,s₁,e₁,e₂⟩:=aX e
 obtain⟨hn₁,dO⟩:=dR (hlo _ _ _ _) e₁ hl hw
 have hn₂:s₁.next≤s'.next:=by
  cases hx1:x₁.1 with
  |normal=>simp only[hx1] at e₂;exact(dR (IL _ _ _ _) e₂ (by omega) dO).1
  |ret=>simp only[hx1,aW.ok.injEq] at e₂;rw[e₂.2];exact Nat.le_refl _
  |exit id=>simp only[hx1,aW.ok.injEq] at e₂;rw[e₂.2];exact Nat.le_refl _
 refine dm ro lim c m s x₁ s₁ e₁ hl hw Γ W w a r H hS hx hm hro (hf.sub hn₂) _ ?_
 intro bP w₁ a₁ H₁ hex hfr
 cases hx1:x₁.1 with
 |normal=>
  simp only[hx1] at e₂
  exact hK x₁.2 s₁ e₂ (by omega) dO bP w₁ a₁ H₁ hex hfr
 |ret=>
  simp only[hx1,aW.ok.injEq] at e₂
  obtain⟨rfl,rfl⟩:=e₂
  have:=hk bP w₁ a₁ H₁ hex hfr
  rw[hx1] at this;exact this
 |exit id=>
  simp only[hx1,aW.ok.injEq] at e₂
  obtain⟨rfl,rfl⟩:=e₂
  have:=hk bP w₁ a₁ H₁ hex hfr
  rw[hx1] at this;exact this
theorem xB (hO:cr P O) (kY:P.follows .mixedOrders=true) {k:Nat} (dm:eM P (jL P O k)) (hlp:tD P O k):eM P (jL P O (k+1))∧tD P O (k+1):=by
 have hlo:fm (jL P O k):=nI k
 have hL:tD P O (k+1):=by
  intro ro lim c m s x s' e hl hw Γ W w a r H hS hx hm hro hf Q hk
  rw[roundsIn_succ]
  refine rO dm hlo hlo (d := .loop c) e hl hw hS hx hm hro hf (fun x₁ s₁ e₁ hl₁ dO bP w₁ a₁ H₁ hex hfr=>?_) hk
  exact hlp ro lim c x₁ s₁ x s' e₁ hl₁ dO bP W w₁ a₁ r H₁ hex.rel hex.sub hfr (hro.mono hex.le) (hf.after hex) Q fun cG w₂ a₂ H₂ cM xC=>hk cG w₂ a₂ H₂ (hex.trans cM) xC
 refine⟨?_,hL⟩
 intro ro lim c m s x s' e hl hw Γ W w a r H hS hx hm hro hf Q hk
 cases c with
 |loop c=>exact wpIn_loop_rounds (k+1) (hL ro lim c m s x s' e hl hw Γ W w a r H hS hx hm hro hf Q hk)
 |skip=>
  have e:aW.ok (bw.normal,m) s = .ok x s':=e
  simp only[aW.ok.injEq] at e
  obtain⟨rfl,rfl⟩:=e
  exact wpIn_skip (hk Γ w a H (Ex.refl hS hx) hm)
 |label l=>
  have e:aW.ok (bw.normal,m) s = .ok x s':=e
  simp only[aW.ok.injEq] at e
  obtain⟨rfl,rfl⟩:=e
  exact wpIn_label (hk Γ w a H (Ex.refl hS hx) hm)
 |exit id=>
  have e:aW.ok (bw.exit id,m) s = .ok x s':=e
  simp only[aW.ok.injEq] at e
  obtain⟨rfl,rfl⟩:=e
  exact wpIn_exit (hk Γ w a H (Ex.refl hS hx) hm)
 |ret=>
  have e:aW.ok (bw.ret,m) s = .ok x s':=e
  simp only[aW.ok.injEq] at e
  obtain⟨rfl,rfl⟩:=e
  exact wpIn_ret (hk Γ w a H (Ex.refl hS hx) hm)
 |region id ops draw=>
  obtain⟨ops⟩:=ops
  have e:bF (cond draw (eE P O (jL P O k) lim ops m s) (gU P O (jL P O k) lim ops ops m s)) (fun m s => .ok (.normal,m) s) = .ok x s':=e
  obtain⟨m₁,s₁,e₁,e₂⟩:=aX e
  simp only[aW.ok.injEq] at e₂
  obtain⟨rfl,rfl⟩:=e₂
  cases draw with
  |true=>exact xw hO dm hlo kY e₁ hl hw hS hx hm hf r hk
  |false=>
   refine wpIn_region ?_
   have:List.range (⟨ops⟩:Array Oper).size=List.range' 0 ops.length:=by simp[List.range_eq_range']
   rw[this]
   exact rN hO dm hlo ops 0 Γ w m m₁ a s s₁ H rfl e₁ hl hw hS hx hm hf hk
 |seq c d=>
  refine wpIn_seq ?_
  refine rO dm hlo hlo (d:=d) e hl hw hS hx hm hro hf (fun x₁ s₁ e₁ hl₁ dO bP w₁ a₁ H₁ hex hfr=>?_) hk
  exact dm ro lim d x₁ s₁ x s' e₁ hl₁ dO bP W w₁ a₁ r H₁ hex.rel hex.sub hfr (hro.mono hex.le) (hf.after hex) Q fun cG w₂ a₂ H₂ cM xC=>hk cG w₂ a₂ H₂ (hex.trans cM) xC
 |cond g c d=>
  have e:cond (a_ g) (match m.eval g with
   | .bool true=>jL P O k ro lim c m s
   | .bool false=>jL P O k ro lim d m s
   | _ => .fail "cond") (.fail "cond") = .ok x s':=e
  cases hg:a_ g with
  |false=>simp[hg] at e
  |true=>
   simp only[hg,cond_true] at e
   have hv:=qg hm.tm g hg
   split at e
   ·rename_i he
    rw[he] at hv
    cases hu:a.eval g<;>rw[hu] at hv<;>cases hv
    exact wpIn_cond_true hu (dm ro lim c m s x s' e hl hw Γ W w a r H hS hx hm hro hf Q hk)
   ·rename_i he
    rw[he] at hv
    cases hu:a.eval g<;>rw[hu] at hv<;>cases hv
    exact wpIn_cond_false hu (dm ro lim d m s x s' e hl hw Γ W w a r H hS hx hm hro hf Q hk)
   ·simp at e
 |block id c=>
  have e:bF (jL P O k ro lim c m s) (fun x s=>match x.1 with
   | .exit i => .ok (cond (Nat.beq i id) .normal (.exit i),x.2) s
   | _ => .ok x s) = .ok x s':=e
  obtain⟨x₁,s₁,e₁,e₂⟩:=aX e
  have hs:s₁=s'∧x.2=x₁.2:=by
   cases hx1:x₁.1 with
   |normal=>simp only[hx1,aW.ok.injEq] at e₂;exact⟨e₂.2,by rw[←e₂.1]⟩
   |ret=>simp only[hx1,aW.ok.injEq] at e₂;exact⟨e₂.2,by rw[←e₂.1]⟩
   |exit i=>simp only[hx1,aW.ok.injEq] at e₂;exact⟨e₂.2,by rw[←e₂.1]⟩
  obtain⟨rfl,hx2⟩:=hs
  refine wpIn_block ?_
  refine dm ro lim c m s x₁ s₁ e₁ hl hw Γ W w a r H hS hx hm hro hf _ ?_
  intro bP w₁ a₁ H₁ hex hfr
  have q:=hk bP w₁ a₁ H₁ hex (by rw[hx2];exact hfr)
  cases hx1:x₁.1 with
  |normal=>simp only[hx1,aW.ok.injEq] at e₂;rw[←e₂.1,hx1] at q;exact q
  |ret=>simp only[hx1,aW.ok.injEq] at e₂;rw[←e₂.1,hx1] at q;exact q
  |exit i=>
   simp only[hx1,aW.ok.injEq] at e₂
   rw[←e₂.1] at q
   show if i=id then Q .normal a₁ w₁ else Q (.exit i) a₁ w₁
   cases hb:Nat.beq i id with
   |true=>
    have:=Nat.eq_of_beq_eq_true hb
    subst this
    rw[hb] at q
    rw[if_pos rfl];exact q
   |false=>
    rw[hb] at q
    have:i≠id:=fun h=>by rw[h,Nat.beq_refl] at hb;exact Bool.noConfusion hb
    rw[if_neg this];exact q
 |scope c=>
  have e:jL P O k ro lim c m s = .ok x s':=e
  refine xA ?_
  refine dm ro lim c m s x s' e hl hw Γ W w a r H hS hx hm hro hf _ ?_
  intro bP w₁ a₁ H₁ hex hfr
  have q:=hk bP w₁ a₁ H₁ hex hfr
  cases hx1:x.1<;>rw[hx1] at q<;>exact q
 |rangeFunc g ps assign body=>exact u6 hO dm hlo e hl hw hS hx hm hro hf hk
 | _=>
  have e:(aW.fail "code":aW (bw×Tm)) = .ok x s':=e
  simp at e
theorem mJ (hO:cr P O) (kY:P.follows .mixedOrders=true):∀ k,eM P (jL P O k)∧tD P O k
 |0=>⟨fun ro lim c m s x s' e=>by
   have e:(aW.fail "fuel":aW (bw×Tm)) = .ok x s':=e
   simp at e,fun ro lim c m s x s' e=>by
   have e:(aW.fail "fuel":aW (bw×Tm)) = .ok x s':=e
   simp at e⟩
 |k+1=>let ⟨h1,h2⟩:=mJ hO kY k;xB hO kY h1 h2
end
def tE (W w':World):Prop:=W.keptBut w' (fun _=>False)∧(∀ a,a.block<W.heap.size→w'.frozen? a=W.frozen? a)∧W.heap.size≤w'.heap.size
theorem tE.frame {W w':World} (h:tE W w') (may:MemPlace→Prop):W.keptBut w' may:=World.keptBut_mono (fun _ f=>f.elim) h.1
theorem rq {H:Type} {enc:TypeId×Value→H} {P:Program} {f:Func} {s:ChangeSpec} {apart fresh handsOn again:Bool} {W W':World} {args:Array Value} {v:Value} {ds gs:List (DataW H)} {before pa pv:List MemPlace}
  (hW:DataW.Whole enc P f.params.toList s.vars apart W args.toList ds gs before)
  (hres:∀ (b:Nat) (sp:Nat→Bool) (hd:Bool),DataW.TrodAll enc P W' b sp hd f.resultTypes.toList (v.resultList f.resultTypes.size) (s.fn H (ds++gs)).results [])
  (hargs:∀ sp:Nat→Bool,(∀ p∈before,sp p.block=true)→DataW.TrodAll enc P W' 0 sp true f.params.toList args.toList (s.fn H (ds++gs)).args pa)
  (hvars:∀ sp:Nat→Bool,(∀ p∈before,sp p.block=true)→DataW.TrodVars enc P W' sp s.vars (s.fn H (ds++gs)).vars pv)
  (hps:before=pa++pv) (hg:tE W W')
  (hok:∀ (j:Nat) (t:TypeId) (r:Value),f.resultTypes[j]? = some t→(v.resultList f.resultTypes.size)[j]? = some r→Value.okWide P W' .any 0 t r):
  s.post enc P f apart fresh handsOn again W args v W':=by
 have ep:∀ p∈before,p.block<W.heap.size:=fun p hp=>by simpa using hW.lt p hp
 have hold:∀ p∈before,(fun b=>decide (b<W.heap.size)) p.block=true:=fun p hp=>by simpa using ep p hp
 refine⟨ds,gs,before,[],pa,pv,hW,hres _ _ _,hargs _ hold,hvars _ hold,World.keptBut_mono (fun p hp=>⟨hp,?_⟩) (hg.frame (·∈before)),fun _=>?_⟩
 ·rw[hps,List.mem_append] at hp
  exact Or.inr hp
 ·obtain⟨_,_,_,_,_,hz,hn⟩:=hW
  refine⟨hok,_,_,([]++pa)++pv,⟨[]++pa,pv,trodAll_append (hargs _ (fun _ _=>rfl)) (hres _ _ _),hvars _ (fun _ _=>rfl),rfl,?_,?_⟩,?_⟩
  ·intro b off hp
   have hm:MemPlace.cell b off∈before:=by rw[hps];simpa using hp
   rw[hg.2.1 _ (ep _ hm)]
   exact hz b off hm
  ·intro ha
   have:=hn ha
   rw[hps] at this
   simpa using this
  ·intro p hp _
   rw[hps]
   simpa using hp
end Go.Am
