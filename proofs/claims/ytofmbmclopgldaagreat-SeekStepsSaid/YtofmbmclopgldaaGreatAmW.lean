/-
A part.
-/
import Derived.Test.YtofmbmclopgldaaGreatAmV
import Derived.RangeFuncNested
import Derived.RowKit3
import Derived.Scope
import Derived.ChangeSame
set_option linter.all false
namespace Go.Am
open Go.RowKit Go.ChangeShapes Go.WideShapes
section
variable {P:Program} {O:Over} {ev:iL} {Γ:bL} {W w:World} {H:PT aj}
theorem J7{ro r:Option Nat}{m:Tm}{tmps:Array Value}{ds:List Deferred}{ps:Array Tmp}{assign body:Code}(fn:FuncId)(hro:Rx Γ ro r)(ht:ij Γ m tmps)(hd:Rw Γ m.fF ds):
  iA P Γ (FG ro m ps.toList assign body) (Instr.enterLoop fn tmps ps assign body r) (fun aY x y=>aY.blk x.1=some (y.1,0)∧Rw aY x.2 (y.2++ds)):=by
 intro W h n w hS;unfold FG;cases hro with
 |yes l₀ atX hl=>
  refine ak.get fun B hB=>?_;split
  ·rename_i st h_ tm ps' as bd;obtain⟨L,h1,_⟩:=ny hS hl hB;refine ak.new fun hn=>?_;obtain⟨aY,hst,hb,ku⟩:=hS.jw hn (.loop { state := .ready,pending:=none,fn,tmps,params:=ps,assign,body,defers:=L.defers }) (.loop .ready none m ps.toList assign body) rfl
    (fun aY w' hle h1=>⟨rfl,_,h1,rfl,rfl,ht.mono hle,rfl,rfl,rfl⟩)
   exact⟨aY,_,pure (w.heap.size,[]),hst,run_enterLoop_inner h1 _ _ _ _ _,ak.ok ku rfl ⟨hb,hd.mono hst.le⟩⟩
  ·exact ak.fail
 |no=>
  refine ak.new fun hn=>?_;obtain⟨cW,hst,hb,ac7⟩:=hS.jw hn (.deferred (some [])) .deferred rfl (fun aY w' _ h1=>⟨rfl,h1⟩);have hsz:(w.alloc (.deferred (some []))).heap.size=w.heap.size+1:=by simp
  refine⟨cW,w.alloc (.deferred (some [])),(do pure (←newObj (.loop { state := .ready,pending:=none,fn,tmps,params:=ps,assign,body,defers:=w.heap.size }),[({ target := .collected w.heap.size,args:=#[] }:Deferred)]):Sem (Nat×List Deferred)),hst,?_,?_⟩
  ·rw[run_enterLoop_outer];simp only[Sem.run_bind,run_newObj_alloc,Result.andThen,Sem.run_pure,hsz]
  refine ak.new fun hn'=>?_;obtain⟨eP,Gr,hb₂,Dw⟩:=ac7.jw hn' (.loop { state := .ready,pending:=none,fn,tmps,params:=ps,assign,body,defers:=w.heap.size }) (.loop .ready none m ps.toList assign body) rfl
   (fun aY w' hle h1=>⟨rfl,_,h1,rfl,rfl,(ht.mono hst.le).mono hle,rfl,rfl,rfl⟩)
  exact⟨eP,_,pure (w.heap.size+1,[{ target := .collected w.heap.size,args:=#[] }]),Gr,
   (by simp only[Sem.run_bind,run_newObj_alloc,Result.andThen,Sem.run_pure,hsz]),
   ak.ok Dw rfl ⟨by rw[hb₂];simp,.cons _ _ _ _ (Gr.le.blk _ _ hb) ((hd.mono hst.le).mono Gr.le)⟩⟩
theorem Gs{x x':Value}{l l':Nat}(hl:Γ.blk l=some (l',0))(hx:aD Γ x x'):
  (∃ fn' f' c',x' = .func fn' ⟨f'⟩ ⟨c'⟩∧iA P Γ (lf P x l) (invoke (.fn fn' ⟨c'⟩) ⟨f'++[.func (.yield l') ⟨[]⟩ ⟨[]⟩]⟩ >>= pure) (fun Γ fa nx=>∃ args',nx = .enter fa.1 ⟨args'⟩∧aM Γ fa.2 args'))∨
   ∃ why,lf P x l = .fail why:=by
 cases hx with
 |func fn fn' f f' c c' hf hc hp=>
  refine .inl ⟨fn',f',c',rfl,fun W h n w hS=>?_⟩;unfold lf;refine ak.bind (uR (P:=P) hp hc (hf.append (.cons _ _ _ _ (.func _ _ _ _ _ _ .nil .nil (.yield _ _ hl)) .nil)) W h n w hS) ?_;intro aY nx nx' hle zq W h n w hS;cases zq with
  |enter f args args' ha=>exact ak.ok hS rfl ⟨args',rfl,ha⟩
  | _=>exact ak.fail
 | _=>exact .inr ⟨_,rfl⟩
theorem DH(hO:cU P O)(fY:iY P ev)(hlo:jz ev){ro r:Option Nat}{lim:Nat}{g:Operand}{ps:Array Tmp}{assign body:Code}{m:Tm}{a:Act}{s s':HS}{x:bp×Tm}(e:fL P O ev ro lim g ps.toList assign body m s = .ok x s')(hl:lim≤s.next)(hw:Wf s)
  (hS:bK Γ W H w) (hx:Ext s.heap H) (hm:xj Γ m a) (hro:Rx Γ ro r) (hf:Free Γ s.next s'.next) {Q:Exit→Act→World→Prop}
  (hk:∀ aY w' a' H',Ex Γ aY lim s s' W H H' w'→xj aY x.2 a'→Q (Bq x.1) a' w'):(Code.rangeFunc g ps assign body).wpIn (Fw r) 0 P Q a w:=by
 unfold fL at e;cases hg:bz g with
 |false=>simp[hg] at e
 |true=>
  simp only[hg,cond_true] at e;obtain⟨ld,s₁,e₁,e⟩:=bE e;obtain⟨fa,s₂,e₂,e⟩:=bE e;obtain⟨v,s₃,e₃,e⟩:=bE e;obtain⟨y,s₄,e₄,e⟩:=bE e;simp only[aO.ok.injEq] at e;obtain⟨rfl,rfl⟩:=e;obtain⟨hn₁,gY⟩:=g_ (eZ _) e₁ hl hw;obtain⟨hn₂,Dz⟩:=g_ (eZ _) e₂ qJ gY;obtain⟨ac0,DA⟩:=g_ (xh hlo _ _) e₃ qJ Dz;obtain⟨ac1,_⟩:=g_ (eZ _) e₄ qJ DA;refine wpIn_rangeFunc ?_;intro fn _;obtain⟨cW,w₁,lm,H₁,SD,dm,hb₁,hd₁⟩:=qa (J7 (P:=P) (ps:=ps) (assign:=assign) (body:=body) fn hro hm.tm hm.df) e₁ hl hw hS hx (hf.sub qJ);have hvg:aD cW (m.eval g) (a.eval g):=(xm hm.tm g hg).mono dm.le
  rcases Gs (P:=P) hb₁ hvg with ⟨fn',f',c',apn,apo⟩ | ⟨why,ac8⟩
  ·obtain⟨eP,w₂,nx,H₂,nB,fc,args',rfl,ha⟩:=qa apo e₂ qJ gY dm.rel dm.sub (hf.after dm |>.sub qJ);have me:=dm.trans fc;have hinv:(invoke (.fn fn' ⟨c'⟩) ⟨f'++[.func (.yield lm.1) ⟨[]⟩ ⟨[]⟩]⟩).run P w₁ = .ok (.enter fa.1 ⟨args'⟩) w₂:=by
    rw[Sem.run_bind] at nB;cases hi:(invoke (.fn fn' ⟨c'⟩) ⟨f'++[.func (.yield lm.1) ⟨[]⟩ ⟨[]⟩]⟩).run P w₁ with
    |ok u w'=>rw[hi] at nB;simpa using nB
    |halt u w'=>rw[hi] at nB;simp[Result.andThen] at nB
   refine⟨lm.1,lm.2,w₁,{ target := .fn fn' ⟨c'⟩,args:=⟨f'++[.func (.yield lm.1) ⟨[]⟩ ⟨[]⟩]⟩ },w₁,fa.1,⟨args'⟩,w₂,SD,?_,fun _ _=>trivial,hinv,fun h=>by simp[Fw] at h,?_⟩
   ·simp only[resolve,apn];have sv:((⟨f'⟩:Array Value)++(rangeCall g lm.1).args.map a.eval)=⟨f'++[.func (.yield lm.1) ⟨[]⟩ ⟨[]⟩]⟩:=by
     apply Array.ext';simp[Act.eval]
    simp only[Deferred.ofValue,Sem.run_pure];rw[sv]
   ·refine CallsIn.mono (qY hO fY hlo e₃ qJ Dz fc.rel fc.sub ha (hf.after me |>.sub qJ) r) ?_;rintro en w₃ ⟨ac2,v',apf,rfl,nC,_⟩;have kC:=me.trans nC;have MB:=(fc.le.trans nC.le).blk _ _ hb₁;obtain⟨DB,SC,j,Yb,Br,Bt,rfl⟩:=qa (MA (P:=P) MB) e₄ qJ DA nC.rel nC.sub (hf.after kC);have ac9:=kC.trans Bt;have hfr:xj DB { m with fF:=ld.2 } { a with defers:=lm.2++a.defers }:=by
     have hle:cW.le DB:=(fc.le.trans nC.le).trans Bt.le;exact⟨⟨hm.tm.size,(hm.tm.mono ac9.le).get⟩,hd₁.mono hle⟩
    have q:=hk DB SC { a with defers:=lm.2++a.defers } Yb ac9 hfr;refine⟨exitCode y,SC,Br,?_⟩;cases y with
    |normal=>exact q
    |ret=>exact wpIn_ret q
    |exit id=>exact wpIn_exit q
  ·rw[ac8] at e₂;simp[AP.run] at e₂
theorem Gt{F:Fence}{n:Nat}{Q:Exit→Act→World→Prop}{a:Act}{c:Code}(h:c.wpIn F n P (Exit.noGoto Q) a w):(Code.scope c).wpIn F n P Q a w:=by
 intro b k cs hro hb hr;have h1:step P (lone (b.atR a (.code (.scope c)::k)) cs w) = .next (lone (b.atR a (.code c :: .inScope c::k)) cs w):=step_lone_go (by simp[stepG,stepG.exec,Frame.atR])
 have h2:∀ a w,step P (lone (b.atR a (.inScope c::k)) cs w) = .next (lone (b.atR a k) cs w):=fun a w=>step_lone_go (by simp[stepG,stepG.exec,Frame.atR])
 have h0:(lone (b.atR a (.code (.scope c)::k)) cs w).fenced P F:=fenced_calm hb hr rfl;obtain⟨e,a₁,w₁,hq,sv⟩:=h b (.inScope c::k) cs hro hb hr;have hx:∀ id,exitTo id (.inScope c::k)=exitTo id k:=fun id=>by simp[exitTo]
 cases e with
 |normal=>exact⟨.normal,a₁,w₁,hq,.head h0 h1 (StepsIn.trans sv (.one (fenced_calm hb hr rfl) (h2 _ _)))⟩
 |exit id=>
  exact⟨.exit id,a₁,w₁,hq,fun k' hk => .head h0 h1 (sv.1 k' (by rw[hx];exact hk)),
   fun hr' hk=>let ⟨k₁,q1,q2⟩:=sv.2 hr' (by rw[hx];exact hk);⟨k₁,q1,.head h0 h1 q2⟩⟩
 |goto l=>exact hq.elim
 |ret=>exact⟨_,a₁,w₁,hq,.of_steps (.one h0 h1) sv⟩
 |panic ch=>exact⟨_,a₁,w₁,hq,.of_steps (.one h0 h1) sv⟩
 |outgrown=>exact⟨_,a₁,w₁,hq,.of_steps (.one h0 h1) sv⟩
def Bw(P:Program)(O:Over)(k:Nat):Prop:=
 ∀ ro lim c m s x s',mQ P O k ro lim (.loop c) m s = .ok x s'→lim≤s.next→Wf s→∀ Γ W w a r H,bK Γ W H w→Ext s.heap H→xj Γ m a→Rx Γ ro r→Free Γ s.next s'.next→
  ∀ Q:Exit→Act→World→Prop,(∀ aY w' a' H',Ex Γ aY lim s s' W H H' w'→xj aY x.2 a'→Q (Bq x.1) a' w')→Code.roundsIn (Fw r) 0 P c Q k a w
theorem zZ(fY:iY P ev)(hlo:jz ev){MI:iL}(Yg:jz MI){ro:Option Nat}{lim:Nat}{c d:Code}{m:Tm}{s s':HS}{x:bp×Tm}
  (e:bP (ev ro lim c m s) (fun x s=>match x.1 with | .normal=>MI ro lim d x.2 s | _ => .ok x s) = .ok x s') (hl:lim≤s.next) (hw:Wf s) {a:Act} {r:Option Nat}
  (hS:bK Γ W H w) (hx:Ext s.heap H) (hm:xj Γ m a) (hro:Rx Γ ro r) (hf:Free Γ s.next s'.next) {Q:Exit→Act→World→Prop} {K:Act→World→Prop}
  (hK:∀ x₁ s₁,MI ro lim d x₁ s₁ = .ok x s'→lim≤s₁.next→Wf s₁→∀ cW w₁ a₁ H₁,Ex Γ cW lim s s₁ W H H₁ w₁→xj cW x₁ a₁→K a₁ w₁)
  (hk:∀ aY w' a' H',Ex Γ aY lim s s' W H H' w'→xj aY x.2 a'→Q (Bq x.1) a' w'):c.wpIn (Fw r) 0 P (Exit.then K Q) a w:=by
 obtain⟨x₁,s₁,e₁,e₂⟩:=bE e;obtain⟨hn₁,gY⟩:=g_ (hlo _ _ _ _) e₁ hl hw;have hn₂:s₁.next≤s'.next:=by
  cases hx1:x₁.1 with
  |normal=>simp only[hx1] at e₂;exact(g_ (Yg _ _ _ _) e₂ qJ gY).1
  |ret=>simp only[hx1,aO.ok.injEq] at e₂;rw[e₂.2];exact Nat.le_refl _
  |exit id=>simp only[hx1,aO.ok.injEq] at e₂;rw[e₂.2];exact Nat.le_refl _
 refine fY ro lim c m s x₁ s₁ e₁ hl hw Γ W w a r H hS hx hm hro (hf.sub hn₂) _ ?_;intro cW w₁ a₁ H₁ hex hfr;cases hx1:x₁.1 with
 |normal=>
  simp only[hx1] at e₂;exact hK x₁.2 s₁ e₂ qJ gY cW w₁ a₁ H₁ hex hfr
 |ret=>
  simp only[hx1,aO.ok.injEq] at e₂;obtain⟨rfl,rfl⟩:=e₂;have:=hk cW w₁ a₁ H₁ hex hfr;rw[hx1] at this;exact this
 |exit id=>
  simp only[hx1,aO.ok.injEq] at e₂;obtain⟨rfl,rfl⟩:=e₂;have:=hk cW w₁ a₁ H₁ hex hfr;rw[hx1] at this;exact this
theorem Gu(hO:cU P O)(qw:P.follows .mixedOrders=true){k:Nat}(fY:iY P (mQ P O k))(hlp:Bw P O k):iY P (mQ P O (k+1))∧Bw P O (k+1):=by
 have hlo:jz (mQ P O k):=tU k;have hL:Bw P O (k+1):=by
  intro ro lim c m s x s' e hl hw Γ W w a r H hS hx hm hro hf Q hk;rw[roundsIn_succ];refine zZ fY hlo hlo (d := .loop c) e hl hw hS hx hm hro hf (fun x₁ s₁ e₁ hl₁ gY cW w₁ a₁ H₁ hex hfr=>?_) hk;exact hlp ro lim c x₁ s₁ x s' e₁ hl₁ gY cW W w₁ a₁ r H₁ hex.rel hex.sub hfr (hro.mono hex.le) (hf.after hex) Q fun eP w₂ a₂ H₂ fc Gv=>hk eP w₂ a₂ H₂ (hex.trans fc) Gv
 refine⟨?_,hL⟩;intro ro lim c m s x s' e hl hw Γ W w a r H hS hx hm hro hf Q hk;cases c with
 |loop c=>exact wpIn_loop_rounds (k+1) (hL ro lim c m s x s' e hl hw Γ W w a r H hS hx hm hro hf Q hk)
 |skip=>
  have e:aO.ok (bp.normal,m) s = .ok x s':=e;simp only[aO.ok.injEq] at e;obtain⟨rfl,rfl⟩:=e;exact wpIn_skip (hk Γ w a H (Ex.refl hS hx) hm)
 |label l=>
  have e:aO.ok (bp.normal,m) s = .ok x s':=e;simp only[aO.ok.injEq] at e;obtain⟨rfl,rfl⟩:=e;exact wpIn_label (hk Γ w a H (Ex.refl hS hx) hm)
 |exit id=>
  have e:aO.ok (bp.exit id,m) s = .ok x s':=e;simp only[aO.ok.injEq] at e;obtain⟨rfl,rfl⟩:=e;exact wpIn_exit (hk Γ w a H (Ex.refl hS hx) hm)
 |ret=>
  have e:aO.ok (bp.ret,m) s = .ok x s':=e;simp only[aO.ok.injEq] at e;obtain⟨rfl,rfl⟩:=e;exact wpIn_ret (hk Γ w a H (Ex.refl hS hx) hm)
 |region id ops draw=>
  obtain⟨ops⟩:=ops;have e:bP (cond draw (fJ P O (mQ P O k) lim ops m s) (jl P O (mQ P O k) lim ops ops m s)) (fun m s => .ok (.normal,m) s) = .ok x s':=e;obtain⟨m₁,s₁,e₁,e₂⟩:=bE e;simp only[aO.ok.injEq] at e₂;obtain⟨rfl,rfl⟩:=e₂;cases draw with
  |true=>exact Gq hO fY hlo qw e₁ hl hw hS hx hm hf r hk
  |false=>
   refine wpIn_region ?_;have:List.range (⟨ops⟩:Array Oper).size=List.range' 0 ops.length:=by simp[List.range_eq_range']
   rw[this];exact zX hO fY hlo ops 0 Γ w m m₁ a s s₁ H rfl e₁ hl hw hS hx hm hf hk
 |seq c d=>
  refine wpIn_seq ?_;refine zZ fY hlo hlo (d:=d) e hl hw hS hx hm hro hf (fun x₁ s₁ e₁ hl₁ gY cW w₁ a₁ H₁ hex hfr=>?_) hk;exact fY ro lim d x₁ s₁ x s' e₁ hl₁ gY cW W w₁ a₁ r H₁ hex.rel hex.sub hfr (hro.mono hex.le) (hf.after hex) Q fun eP w₂ a₂ H₂ fc Gv=>hk eP w₂ a₂ H₂ (hex.trans fc) Gv
 |cond g c d=>
  have e:cond (bz g) (match m.eval g with
   | .bool true=>mQ P O k ro lim c m s
   | .bool false=>mQ P O k ro lim d m s
   | _ => .fail "cond") (.fail "cond") = .ok x s':=e
  cases hg:bz g with
  |false=>simp[hg] at e
  |true=>
   simp only[hg,cond_true] at e;have hv:=xm hm.tm g hg;split at e
   ·rename_i he;rw[he] at hv;cases hu:a.eval g<;>rw[hu] at hv<;>cases hv;exact wpIn_cond_true hu (fY ro lim c m s x s' e hl hw Γ W w a r H hS hx hm hro hf Q hk)
   ·rename_i he;rw[he] at hv;cases hu:a.eval g<;>rw[hu] at hv<;>cases hv;exact wpIn_cond_false hu (fY ro lim d m s x s' e hl hw Γ W w a r H hS hx hm hro hf Q hk)
   ·simp at e
 |block id c=>
  have e:bP (mQ P O k ro lim c m s) (fun x s=>match x.1 with
   | .exit i => .ok (cond (Nat.beq i id) .normal (.exit i),x.2) s
   | _ => .ok x s) = .ok x s':=e
  obtain⟨x₁,s₁,e₁,e₂⟩:=bE e;have hs:s₁=s'∧x.2=x₁.2:=by
   cases hx1:x₁.1 with
   |normal=>simp only[hx1,aO.ok.injEq] at e₂;exact⟨e₂.2,by rw[←e₂.1]⟩
   |ret=>simp only[hx1,aO.ok.injEq] at e₂;exact⟨e₂.2,by rw[←e₂.1]⟩
   |exit i=>simp only[hx1,aO.ok.injEq] at e₂;exact⟨e₂.2,by rw[←e₂.1]⟩
  obtain⟨rfl,hx2⟩:=hs;refine wpIn_block ?_;refine fY ro lim c m s x₁ s₁ e₁ hl hw Γ W w a r H hS hx hm hro hf _ ?_;intro cW w₁ a₁ H₁ hex hfr;have q:=hk cW w₁ a₁ H₁ hex (by rw[hx2];exact hfr);cases hx1:x₁.1 with
  |normal=>simp only[hx1,aO.ok.injEq] at e₂;rw[←e₂.1,hx1] at q;exact q
  |ret=>simp only[hx1,aO.ok.injEq] at e₂;rw[←e₂.1,hx1] at q;exact q
  |exit i=>
   simp only[hx1,aO.ok.injEq] at e₂;rw[←e₂.1] at q
   show if i=id then Q .normal a₁ w₁ else Q (.exit i) a₁ w₁
   cases hb:Nat.beq i id with
   |true=>
    have:=Nat.eq_of_beq_eq_true hb;subst this;rw[hb] at q;rw[if_pos rfl];exact q
   |false=>
    rw[hb] at q;have:i≠id:=fun h=>by rw[h,Nat.beq_refl] at hb;exact Bool.noConfusion hb
    rw[if_neg this];exact q
 |scope c=>
  have e:mQ P O k ro lim c m s = .ok x s':=e;refine Gt ?_;refine fY ro lim c m s x s' e hl hw Γ W w a r H hS hx hm hro hf _ ?_;intro cW w₁ a₁ H₁ hex hfr;have q:=hk cW w₁ a₁ H₁ hex hfr;cases hx1:x.1<;>rw[hx1] at q<;>exact q
 |rangeFunc g ps assign body=>exact DH hO fY hlo e hl hw hS hx hm hro hf hk
 | _=>
  have e:(aO.fail "code":aO (bp×Tm)) = .ok x s':=e;simp at e
theorem sH(hO:cU P O)(qw:P.follows .mixedOrders=true):∀ k,iY P (mQ P O k)∧Bw P O k
 |0=>⟨fun ro lim c m s x s' e=>by
   have e:(aO.fail "fuel":aO (bp×Tm)) = .ok x s':=e;simp at e,fun ro lim c m s x s' e=>by
   have e:(aO.fail "fuel":aO (bp×Tm)) = .ok x s':=e;simp at e⟩
 |k+1=>let ⟨h1,h2⟩:=sH hO qw k;Gu hO qw h1 h2
end
def Bx(W w':World):Prop:=W.keptBut w' (fun _=>False)∧(∀ a,a.block<W.heap.size→w'.frozen? a=W.frozen? a)∧W.heap.size≤w'.heap.size
theorem Bx.frame{W w':World}(h:Bx W w')(may:MemPlace→Prop):W.keptBut w' may:=World.keptBut_mono (fun _ f=>f.elim) h.1
theorem zC{H:Type}{enc:TypeId×Value→H}{P:Program}{f:Func}{s:ChangeSpec}{apart fresh handsOn again:Bool}{W W':World}{args:Array Value}{v:Value}{ds gs:List (DataW H)}{before pa pv:List MemPlace}
  (hW:DataW.Whole enc P f.params.toList s.vars apart W args.toList ds gs before)
  (hres:∀ (b:Nat) (sp:Nat→Bool) (hd:Bool),DataW.TrodAll enc P W' b sp hd f.resultTypes.toList (v.resultList f.resultTypes.size) (s.fn H (ds++gs)).results [])
  (hargs:∀ sp:Nat→Bool,(∀ p∈before,sp p.block=true)→DataW.TrodAll enc P W' 0 sp true f.params.toList args.toList (s.fn H (ds++gs)).args pa)
  (hvars:∀ sp:Nat→Bool,(∀ p∈before,sp p.block=true)→DataW.TrodVars enc P W' sp s.vars (s.fn H (ds++gs)).vars pv)
  (hps:before=pa++pv) (hg:Bx W W')
  (hok:∀ (j:Nat) (t:TypeId) (r:Value),f.resultTypes[j]? = some t→(v.resultList f.resultTypes.size)[j]? = some r→Value.okWide P W' .any 0 t r):
  s.post enc P f apart fresh handsOn again W args v W':=by
 have iI:∀ p∈before,p.block<W.heap.size:=fun p hp=>by simpa using hW.lt p hp
 have hold:∀ p∈before,(fun b=>decide (b<W.heap.size)) p.block=true:=fun p hp=>by simpa using iI p hp
 refine⟨ds,gs,before,[],pa,pv,hW,hres _ _ _,hargs _ hold,hvars _ hold,World.keptBut_mono (fun p hp=>⟨hp,?_⟩) (hg.frame (·∈before)),fun _=>?_⟩
 ·rw[hps,List.mem_append] at hp;exact Or.inr hp
 ·obtain⟨_,_,_,_,_,hz,hn⟩:=hW;refine⟨hok,_,_,([]++pa)++pv,⟨[]++pa,pv,trodAll_append (hargs _ (fun _ _=>rfl)) (hres _ _ _),hvars _ (fun _ _=>rfl),rfl,?_,?_⟩,?_⟩
  ·intro b off hp;have hm:MemPlace.cell b off∈before:=by rw[hps];simpa using hp
   rw[hg.2.1 _ (iI _ hm)];exact hz b off hm
  ·intro ha;have:=hn ha;rw[hps] at this
   simpa using this
  ·intro p hp _;rw[hps]
   simpa using hp
end Go.Am
