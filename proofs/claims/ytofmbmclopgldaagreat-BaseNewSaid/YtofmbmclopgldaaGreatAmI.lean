/-
  A part of the proof: contracts of inner functions.
-/
import Derived.Test.YtofmbmclopgldaaGreatAmG
set_option linter.unusedSimpArgs false
set_option linter.unusedVariables false
namespace Go.Am
open Go.RowKit
section
variable {P:Program} {Γ:br} {W w:World} {h:PT ak} {n:Nat}
theorem uD {op:BinOp} (hs1:op ≠ .shl) (M_:op ≠ .shr) {t:TypeId} {k:IntKind} {a b:Int} {v:Value} (e:intOp op k a b=some v) (w:World):
  (binOp op t (.int k a) (.int k b)).run P w = .ok v w∧aA Γ v v:=by
 cases op<;>first | (exact absurd rfl hs1) | (exact absurd rfl M_) |skip
 all_goals
  simp only[intOp] at e
  first
   | (split at e
      ·simp at e
      ·rename_i hb
       obtain rfl:=Option.some.inj e
       exact⟨by simp[binOp,Op.intDiv,hb],.int _ _⟩)
   | (obtain rfl:=Option.some.inj e
      exact⟨by simp[binOp,Op.intArith,Op.intBits,Op.intCmp],by constructor⟩)
theorem jt {op:BinOp} {t:TypeId} {k k':IntKind} {a b:Int} {v:Value} (e:shiftOp op k a b=some v) (w:World):
  (op = .shl∨op = .shr)→(binOp op t (.int k a) (.int k' b)).run P w = .ok v w∧aA Γ v v:=by
 intro hop
 unfold shiftOp at e
 split at e
 ·simp at e
 ·rename_i hb
  rcases hop with rfl |rfl
  ·obtain rfl:=Option.some.inj e
   exact⟨by simp[binOp,Op.shift,hb],.int _ _⟩
  ·obtain rfl:=Option.some.inj e
   exact⟨by simp[binOp,Op.shift,hb],.int _ _⟩
theorem gM (op:BinOp) (t:TypeId) (ox oy:Operand) (k k':IntKind) (a b:Int) (w:World):(eqGuard op t ox oy (.int k a) (.int k' b)).run P w = .ok () w:=by
 cases op<;>simp[eqGuard]
theorem pz (op:BinOp) (t:TypeId) (ox oy:Operand) (a b:ByteArray) (w:World):(eqGuard op t ox oy (.string a) (.string b)).run P w = .ok () w:=by
 cases op<;>simp[eqGuard]
theorem ou (d:Nat) {t:TypeId} {ms:Array (String×TypeId)} (hd:P.underlying t=some (.interface ms)) (w:World):(Op.eqGuardIn (d+1) t .nilIface .nilIface).run P w = .ok (!ms.isEmpty) w:=by
 simp[Op.eqGuardIn,az hd]
theorem qj {op:BinOp} {t:TypeId} {ox oy:Operand} {x y x' y':Value} (hx:aA Γ x x') (hy:aA Γ y y') (hg:bR P t (isConst ox) (isConst oy) x y=true) (w:World):
  (eqGuard op t ox oy x' y').run P w = .ok () w:=by
 by_cases hop:(op matches .eql | .neq)=true
 case neg=>cases op<;>first | (simp at hop;done) |simp[eqGuard]
 case pos=>
  cases hx with
  |dm=>
   cases hy with
   |dm=>
    unfold bR at hg
    simp only[Bool.or_eq_true] at hg
    have R5:∀ o:Operand,isConst o=true→∃ v,o = .const v:=fun o ho=>by cases o<;>simp[isConst] at ho;exact⟨_,rfl⟩
    rcases hg with (hg |hg) |hg
    ·obtain⟨v,rfl⟩:=R5 _ hg
     cases op<;>simp[eqGuard]
    ·obtain⟨v,rfl⟩:=R5 _ hg
     cases op<;>simp[eqGuard]
    ·split at hg
     ·rename_i ms hd
      have hgd:∀ w,(Op.eqGuardIn Op.maxDepth t .nilIface .nilIface).run P w = .ok false w:=by
       intro w
       have:=ou (P:=P) 9999 hd w
       rw[show ms.isEmpty=true from hg] at this
       exact this
      cases op<;>simp only[eqGuard]<;>(repeat' split)<;>simp[hgd]
     ·simp at hg
   | _=>cases op<;>simp[eqGuard]
  |agg l l' hl=>
   cases hy with
   |agg m m' hm=>
    unfold bR at hg
    have:P.eqGuardType P.depth t=false:=by simpa using hg
    exact run_eqGuard_agg w op t ox oy _ _ this
   | _=>cases op<;>simp[eqGuard]
  | _=>cases hy<;>cases op<;>simp[eqGuard]
theorem ug {t:TypeId} {x y:Value} (hi:∀ k a k' b,¬(x = .int k a∧y = .int k' b)) (hs:∀ a b,¬(x = .string a∧y = .string b)) (hf:∀ k a k' b,¬(x = .float k a∧y = .float k' b))
  (hc:∀ k a b k' c d,¬(x = .complex k a b∧y = .complex k' c d)) (w:World):
  (binOp .eql t x y).run P w=((Op.equalIn 10000 t x y).run P w).andThen fun b w' => .ok (.bool b) w':=by
 cases x<;>cases y<;>first
  | (exact absurd ⟨rfl,rfl⟩ (hi _ _ _ _))
  | (exact absurd ⟨rfl,rfl⟩ (hs _ _))
  | (exact absurd ⟨rfl,rfl⟩ (hf _ _ _ _))
  | (exact absurd ⟨rfl,rfl⟩ (hc _ _ _ _ _ _))
  | (simp only[binOp];simp[Op.equal,Op.maxDepth])
theorem uh {t:TypeId} {x y:Value} (hi:∀ k a k' b,¬(x = .int k a∧y = .int k' b)) (hs:∀ a b,¬(x = .string a∧y = .string b)) (hf:∀ k a k' b,¬(x = .float k a∧y = .float k' b))
  (hc:∀ k a b k' c d,¬(x = .complex k a b∧y = .complex k' c d)) (w:World):
  (binOp .neq t x y).run P w=((Op.equalIn 10000 t x y).run P w).andThen fun b w' => .ok (.bool !b) w':=by
 cases x<;>cases y<;>first
  | (exact absurd ⟨rfl,rfl⟩ (hi _ _ _ _))
  | (exact absurd ⟨rfl,rfl⟩ (hs _ _))
  | (exact absurd ⟨rfl,rfl⟩ (hf _ _ _ _))
  | (exact absurd ⟨rfl,rfl⟩ (hc _ _ _ _ _ _))
  | (simp only[binOp];simp[Op.equal,Op.maxDepth])
theorem vF {d:Nat} {t:TypeId} {k k':FloatKind} {a b:Nat}:∃ w,bN P d t (.float k a) (.float k' b) = .fail w:=by
 cases d with
 |zero=>exact⟨_,rfl⟩
 |succ d=>unfold bN;split<;>first | (exact⟨_,rfl⟩) | (simp_all;done)
theorem rV {d:Nat} {t:TypeId} {k k':FloatKind} {a b a' b':Nat}:∃ w,bN P d t (.complex k a a') (.complex k' b b') = .fail w:=by
 cases d with
 |zero=>exact⟨_,rfl⟩
 |succ d=>unfold bN;split<;>first | (exact⟨_,rfl⟩) | (simp_all;done)
end
end Go.Am
set_option linter.unusedSimpArgs false
set_option linter.unusedVariables false
namespace Go.Am
open Go.RowKit
section
variable {P:Program} {Γ:br} {W w:World} {h:PT ak} {n:Nat}
theorem aA.BN {x x':Value} (h:aA Γ x x') {k:IntKind} {a:Int} (e:x' = .int k a):x = .int k a:=by subst e;cases h;rfl
theorem aA.rX {x x':Value} (h:aA Γ x x') {s:ByteArray} (e:x' = .string s):x = .string s:=by subst e;cases h;rfl
theorem aA.uE {x x':Value} (h:aA Γ x x') {k:FloatKind} {a:Nat} (e:x' = .float k a):x = .float k a:=by subst e;cases h;rfl
theorem aA.ql {x x':Value} (h:aA Γ x x') {k:FloatKind} {a b:Nat} (e:x' = .complex k a b):x = .complex k a b:=by subst e;cases h;rfl
theorem BO {neg:Bool} {t:TypeId} {ox oy:Operand} {x y x' y':Value} (hx:aA Γ x x') (hy:aA Γ y y') (hS:bh Γ W h w)
  (hi:∀ k a k' b,¬(x = .int k a∧y = .int k' b)) (hs:∀ a b,¬(x = .string a∧y = .string b)):
  aj P Γ W h n w (cond (bR P t (isConst ox) (isConst oy) x y) ((bN P 12 t x y).bind fun b => .pure (.bool (cond neg (!b) b))) (.fail "eqGuard"))
   (do eqGuard (cond neg .neq .eql) t ox oy x' y';binOp (cond neg .neq .eql) t x' y') aA:=by
 cases hg:bR P t (isConst ox) (isConst oy) x y with
 |false=>exact aj.fail
 |true=>
  simp only[cond_true]
  by_cases hf:∃ k a k' b,x = .float k a∧y = .float k' b
  ·obtain⟨k,a,k',b,rfl,rfl⟩:=hf
   obtain⟨why,e⟩:=vF (P:=P) (d:=12) (t:=t) (k:=k) (k':=k') (a:=a) (b:=b)
   rw[e];exact aj.fail
  ·by_cases hc:∃ k a b k' c d,x = .complex k a b∧y = .complex k' c d
   ·obtain⟨k,a,b,k',c,d,rfl,rfl⟩:=hc
    obtain⟨why,e⟩:=rV (P:=P) (d:=12) (t:=t) (k:=k) (k':=k') (a:=a) (a':=b) (b:=c) (b':=d)
    rw[e];exact aj.fail
   ·have hi':∀ k a k' b,¬(x' = .int k a∧y' = .int k' b):=fun k a k' b ⟨e1,e2⟩=>hi k a k' b ⟨hx.BN e1,hy.BN e2⟩
    have hs':∀ a b,¬(x' = .string a∧y' = .string b):=fun a b ⟨e1,e2⟩=>hs a b ⟨hx.rX e1,hy.rX e2⟩
    have hf':∀ k a k' b,¬(x' = .float k a∧y' = .float k' b):=fun k a k' b ⟨e1,e2⟩=>hf ⟨k,a,k',b,hx.uE e1,hy.uE e2⟩
    have Lx:∀ k a b k' c d,¬(x' = .complex k a b∧y' = .complex k' c d):=fun k a b k' c d ⟨e1,e2⟩=>hc ⟨k,a,b,k',c,d,hx.ql e1,hy.ql e2⟩
    refine aj.congr (w':=w) (e':=do let b ←Op.equalIn 10000 t x' y';pure (.bool (cond neg (!b) b))) ?_ ?_
    ·cases neg
     ·rw[Sem.run_bind,qj hx hy hg w,Result.andThen_ok]
      simp only[cond_false]
      rw[ug hi' hs' hf' Lx,Sem.run_bind]
      rfl
     ·rw[Sem.run_bind,qj hx hy hg w,Result.andThen_ok]
      simp only[cond_true]
      rw[uh hi' hs' hf' Lx,Sem.run_bind]
      rfl
    ·refine aj.bind (rU 12 10000 (by omega) Γ t x y x' y' hx hy W h n w hS) fun aS b b' hle hb=>?_
     obtain rfl:b=b':=hb
     intro W h n w hS
     exact aj.ok hS rfl (.bool _)
theorem uF {op:BinOp} {t:TypeId} {a b:ByteArray} {v:Value} (e:strOp op a b=some v) (w:World):
  (binOp op t (.string a) (.string b)).run P w = .ok v w∧aA Γ v v:=by
 cases op<;>simp only[strOp] at e<;>first
  | (simp at e;done)
  | (obtain rfl:=Option.some.inj e;exact⟨by simp[binOp,Op.stringOp],.bool _⟩)
theorem zW {op:BinOp} {t:TypeId} {ox oy:Operand} {x y x' y':Value} (hx:aA Γ x x') (hy:aA Γ y y'):
  fD P Γ (dR P op t (isConst ox) (isConst oy) x y) (do eqGuard op t ox oy x' y';binOp op t x' y') aA:=by
 intro W h n w hS
 unfold dR
 split
 ·rename_i k a k' b
  cases hx;cases hy
  unfold AP.opt
  split
  ·rename_i v hv
   refine aj.ok hS (b:=v) ?_ (jt (P:=P) (Γ:=Γ) (t:=t) (k':=k') hv w (.inl rfl)).2
   rw[Sem.run_bind,gM,Result.andThen_ok]
   exact(jt (Γ:=Γ) hv w (.inl rfl)).1
  ·exact aj.fail
 ·rename_i k a k' b
  cases hx;cases hy
  unfold AP.opt
  split
  ·rename_i v hv
   refine aj.ok hS (b:=v) ?_ (jt (P:=P) (Γ:=Γ) (t:=t) (k':=k') hv w (.inr rfl)).2
   rw[Sem.run_bind,gM,Result.andThen_ok]
   exact(jt (Γ:=Γ) hv w (.inr rfl)).1
  ·exact aj.fail
 ·rename_i k a k' b hn1 hn2
  cases hx;cases hy
  split
  ·rename_i hk
   subst hk
   unfold AP.opt
   split
   ·rename_i v hv
    have h1:op ≠ .shl:=fun e=>hn1 e
    have h2:op ≠ .shr:=fun e=>hn2 e
    refine aj.ok hS (b:=v) ?_ (uD (P:=P) (Γ:=Γ) (t:=t) h1 h2 hv w).2
    rw[Sem.run_bind,gM,Result.andThen_ok]
    exact(uD (Γ:=Γ) h1 h2 hv w).1
   ·exact aj.fail
  ·exact aj.fail
 ·rename_i a b
  cases hx;cases hy
  unfold AP.opt
  split
  ·rename_i v hv
   refine aj.ok hS (b:=v) ?_ (uF (P:=P) (Γ:=Γ) (t:=t) hv w).2
   rw[Sem.run_bind,pz,Result.andThen_ok]
   exact(uF (Γ:=Γ) hv w).1
  ·exact aj.fail
 ·rename_i hn1 hn2
  exact BO (neg:=false) hx hy hS (fun k a k' b ⟨e1,e2⟩=>hn1 k a k' b e1 e2) (fun a b ⟨e1,e2⟩=>hn2 a b e1 e2)
 ·rename_i hn1 hn2
  exact BO (neg:=true) hx hy hS (fun k a k' b ⟨e1,e2⟩=>hn1 k a k' b e1 e2) (fun a b ⟨e1,e2⟩=>hn2 a b e1 e2)
 ·exact aj.fail
theorem zX {op:UnOp} {x x' v:Value} (hx:aA Γ x x') (e:lp op x=some v) (w:World):(Op.unary op x').run P w = .ok v w∧aA Γ v v:=by
 unfold lp at e
 split at e
 ·cases hx
  obtain rfl:=Option.some.inj e
  exact⟨by simp[Op.unary,Op.intArith],.int _ _⟩
 ·cases hx
  simp only[intOp,Option.some.injEq] at e
  subst e
  exact⟨by simp[Op.unary,Op.intBits],.int _ _⟩
 ·cases hx
  obtain rfl:=Option.some.inj e
  exact⟨by simp[Op.unary],.bool _⟩
 ·simp at e
theorem vG {s d:TypeId} {x x':Value} (hx:aA Γ x x'):fD P Γ (iW P s d x) (convert s d x') aA:=by
 intro W h n w hS
 unfold iW
 split
 ·rename_i ds k k' m hs hd
  cases hx
  refine aj.ok hS (b := .int k (k.wrap m)) ?_ (.int _ _)
  simp only[convert,Sem.run_bind,az hs,az hd,Result.andThen_ok]
  rfl
 ·rename_i ds st hs hd
  cases hx
  refine aj.ok hS (b := .string st) ?_ (.string _)
  simp only[convert,Sem.run_bind,az hs,az hd,Result.andThen_ok]
  cases ds<;>rfl
 ·exact aj.fail
theorem nM {t:TypeId} {x x':Value} (hx:aA Γ x x'):fD P Γ (cR P t x) (Instr.makeInterface t x') aA:=by
 intro W h n w hS
 unfold cR
 split
 ·exact aj.fail
 ·rename_i d hn hd
  refine aj.ok hS (b := .iface t x') ?_ (.iface _ _ _ hx)
  simp only[Instr.makeInterface,Sem.run_bind,az hd,Result.andThen_ok]
  cases d<;>first |rfl | (exact absurd hd (by intro hh;exact hn _ hh))
 ·exact aj.fail
theorem vH {x x':Value} {i:Nat} (hx:aA Γ x x'):fD P Γ (gW x i) (Instr.extract x' i) aA:=by
 intro W h n w hS
 unfold gW
 split
 ·cases hx with
  |tuple l l' hl=>
   unfold AP.opt
   split
   ·rename_i v hv
    obtain⟨v',e,r⟩:=hl.get hv
    exact aj.ok hS (b:=v') (by simp[Instr.extract,e]) r
   ·exact aj.fail
 ·exact aj.fail
theorem rY {l:List String} (h:Instr.least l=none):l=[]:=by cases l with |nil=>rfl |cons a l=>simp[Instr.least] at h
theorem qm (want:Array (String×TypeId)) (got:Array Method):oc want.toList got.toList=true↔Instr.missingMethod want got=none:=by
 have aaw:∀ p:String×TypeId,(got.toList.any fun m=>m.name==p.1&&m.sig==p.2)=got.any fun m=>m.name==p.1&&m.sig==p.2:=fun p=>by simp
 unfold oc Instr.missingMethod
 simp only[aaw]
 generalize hm:(want.toList.filter fun p => !(got.any fun m=>m.name==p.1&&m.sig==p.2)).map (·.1)=missing
 have hiff:(want.toList.all fun p=>got.any fun m=>m.name==p.1&&m.sig==p.2)=true↔missing=[]:=by
  rw[←hm,List.map_eq_nil_iff,List.filter_eq_nil_iff,List.all_eq_true]
  constructor
  ·intro hh a ha;simpa using hh a ha
  ·intro hh a ha;simpa using hh a ha
 rw[hiff]
 constructor
 ·rintro rfl
  simp[Instr.least,List.partition,List.partition.loop]
 ·intro hh
  have hp:=List.partition_eq_filter_filter (p:=fun x:String=>x.contains (Char.ofNat 46)) (l:=missing)
  simp only[hp] at hh
  have h1:Instr.least (missing.filter (not∘fun x:String=>x.contains (Char.ofNat 46)))=none:=by
   cases hl:Instr.least (missing.filter (not∘fun x:String=>x.contains (Char.ofNat 46))) with
   |none=>rfl
   |some v=>rw[hl] at hh;simp at hh
  rw[h1] at hh
  have h2:=rY h1
  have h3:=rY (by simpa using hh)
  rw[List.map_eq_nil_iff] at h3
  rw[List.filter_eq_nil_iff] at h2 h3
  cases missing with
  |nil=>rfl
  |cons a l=>
   have a1:=h2 a (by simp)
   have a2:=h3 a (by simp)
   simp at a1 a2
   exact absurd a1 (by simp[a2])
theorem qS {t xt:TypeId} {x x':Value} {ok:Bool} (hx:aA Γ x x'):fD P Γ (gV P x t ok) (Instr.typeAssert x' xt t ok) aA:=by
 intro W h n w hS
 have ED:∀ v v',aA Γ v v'→aA Γ (cond ok (.tuple ⟨[v,.bool true]⟩) v) (if ok then .tuple #[v',.bool true] else v'):=by
  intro v v' hv
  cases ok
  ·exact hv
  ·exact .tuple _ _ (.cons _ _ _ _ hv (.cons _ _ _ _ (.bool _) .nil))
 have zY:∀ (st dy:Option TypeId) (m:String) (e:Sem Value),(∀ z,(∀ w,(zeroValue t).run P w = .ok z w)→ok=true→e.run P w = .ok (.tuple #[z,.bool false]) w)→
   aj P Γ W h n w (og P t ok) e aA:=by
  intro st dy m e he
  unfold og
  cases ok
  ·exact aj.fail
  ·simp only[cond_true]
   split
   ·rename_i z hz
    obtain⟨xl,xB⟩:=cM hz
    exact aj.ok hS (he z xl rfl) (.tuple _ _ (.cons _ _ _ _ (xB Γ) (.cons _ _ _ _ (.bool _) .nil)))
   ·exact aj.fail
 unfold gV
 split
 ·rename_i d hd
  cases hx
  refine zY none none "" _ fun z hz hok=>?_
  subst hok
  simp only[Instr.typeAssert,Sem.run_bind,az hd,Result.andThen_ok]
  cases d<;>simp[hz]
 ·rename_i want u v hd
  cases hx with
  |iface _ _ v' hv=>
   split
   ·rename_i i hi
    cases hm:oc want.toList i.methods.toList with
    |true=>
     have hm:=(qm _ _).1 hm
     refine aj.ok hS (b:=if ok then .tuple #[.iface u v',.bool true] else .iface u v') ?_ (ED _ _ (.iface _ _ _ hv))
     simp[Instr.typeAssert,az hd,dr hi,hm]
    |false=>
     obtain⟨m,hm⟩:∃ m,Instr.missingMethod want i.methods=some m:=by
      cases hh:Instr.missingMethod want i.methods with
      |some m=>exact⟨m,rfl⟩
      |none=>rw[(qm _ _).2 hh] at hm;simp at hm
     refine zY none none "" _ fun z hz hok=>?_
     subst hok
     simp[Instr.typeAssert,az hd,dr hi,hm,hz]
   ·exact aj.fail
 ·rename_i d u v hn hd
  cases hx with
  |iface _ _ v' hv=>
   split
   ·rename_i hu
    subst hu
    refine aj.ok hS (b:=if ok then .tuple #[v',.bool true] else v') ?_ (ED _ _ hv)
    simp only[Instr.typeAssert,Sem.run_bind,az hd,Result.andThen_ok]
    cases d<;>first |simp |exact absurd hd (fun hh=>hn _ _ _ hh rfl)
   ·rename_i hu
    refine zY none none "" _ fun z hz hok=>?_
    subst hok
    simp only[Instr.typeAssert,Sem.run_bind,az hd,Result.andThen_ok]
    cases d<;>first |simp[hu,hz] |exact absurd hd (fun hh=>hn _ _ _ hh rfl)
 ·exact aj.fail
end
end Go.Am
