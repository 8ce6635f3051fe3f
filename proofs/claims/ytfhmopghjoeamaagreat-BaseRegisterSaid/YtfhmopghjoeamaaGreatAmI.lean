/-
  A part of the proof: contracts of inner functions.
-/
import Derived.Test.YtfhmopghjoeamaaGreatAmG
set_option linter.unusedSimpArgs false
set_option linter.unusedVariables false
namespace Go.Am
open Go.RowKit
section
variable {P:Program} {Γ:aV} {W w:World} {h:PT aj} {n:Nat}
theorem rG {op:BinOp} (hs1:op ≠ .shl) (Iu:op ≠ .shr) {t:TypeId} {k:IntKind} {a b:Int} {v:Value} (e:intOp op k a b=some v) (w:World):
  (binOp op t (.int k a) (.int k b)).run P w = .ok v w∧ay Γ v v:=by
 cases op<;>first | (exact absurd rfl hs1) | (exact absurd rfl Iu) |skip
 all_goals
  simp only[intOp] at e
  first
   | (split at e
      ·simp at e
      ·rename_i hb
       obtain rfl:=Option.some.inj e
       exact⟨by simp[binOp,Op.intDiv,hb],.int _ _⟩)
   | (obtain rfl:=Option.some.inj e
      exact⟨by simp[binOp,Op.intArith,Op.intBits,Op.intCmp],by constructor⟩)
theorem g_ {op:BinOp} {t:TypeId} {k k':IntKind} {a b:Int} {v:Value} (e:shiftOp op k a b=some v) (w:World):
  (op = .shl∨op = .shr)→(binOp op t (.int k a) (.int k' b)).run P w = .ok v w∧ay Γ v v:=by
 intro hop
 unfold shiftOp at e
 split at e
 ·simp at e
 ·rename_i hb
  rcases hop with rfl |rfl
  ·obtain rfl:=Option.some.inj e
   exact⟨by simp[binOp,Op.shift,hb],.int _ _⟩
  ·obtain rfl:=Option.some.inj e
   exact⟨by simp[binOp,Op.shift,hb],.int _ _⟩
theorem fc (op:BinOp) (t:TypeId) (ox oy:Operand) (k k':IntKind) (a b:Int) (w:World):(eqGuard op t ox oy (.int k a) (.int k' b)).run P w = .ok () w:=by
 cases op<;>simp[eqGuard]
theorem nD (op:BinOp) (t:TypeId) (ox oy:Operand) (a b:ByteArray) (w:World):(eqGuard op t ox oy (.string a) (.string b)).run P w = .ok () w:=by
 cases op<;>simp[eqGuard]
theorem l8 (d:Nat) {t:TypeId} {ms:Array (String×TypeId)} (hd:P.underlying t=some (.interface ms)) (w:World):(Op.eqGuardIn (d+1) t .nilIface .nilIface).run P w = .ok (!ms.isEmpty) w:=by
 simp[Op.eqGuardIn,az hd]
theorem n_ {op:BinOp} {t:TypeId} {ox oy:Operand} {x y x' y':Value} (hx:ay Γ x x') (hy:ay Γ y y') (hg:bH P t (isConst ox) (isConst oy) x y=true) (w:World):
  (eqGuard op t ox oy x' y').run P w = .ok () w:=by
 by_cases hop:(op matches .eql | .neq)=true
 case neg=>cases op<;>first | (simp at hop;done) |simp[eqGuard]
 case pos=>
  cases hx with
  |cE=>
   cases hy with
   |cE=>
    unfold bH at hg
    simp only[Bool.or_eq_true] at hg
    have Mn:∀ o:Operand,isConst o=true→∃ v,o = .const v:=fun o ho=>by cases o<;>simp[isConst] at ho;exact⟨_,rfl⟩
    rcases hg with (hg |hg) |hg
    ·obtain⟨v,rfl⟩:=Mn _ hg
     cases op<;>simp[eqGuard]
    ·obtain⟨v,rfl⟩:=Mn _ hg
     cases op<;>simp[eqGuard]
    ·split at hg
     ·rename_i ms hd
      have hgd:∀ w,(Op.eqGuardIn Op.maxDepth t .nilIface .nilIface).run P w = .ok false w:=by
       intro w
       have:=l8 (P:=P) 9999 hd w
       rw[show ms.isEmpty=true from hg] at this
       exact this
      cases op<;>simp only[eqGuard]<;>(repeat' split)<;>simp[hgd]
     ·simp at hg
   | _=>cases op<;>simp[eqGuard]
  |agg l l' hl=>
   cases hy with
   |agg m m' hm=>
    unfold bH at hg
    have:P.eqGuardType P.depth t=false:=by simpa using hg
    exact run_eqGuard_agg w op t ox oy _ _ this
   | _=>cases op<;>simp[eqGuard]
  | _=>cases hy<;>cases op<;>simp[eqGuard]
theorem qY {t:TypeId} {x y:Value} (hi:∀ k a k' b,¬(x = .int k a∧y = .int k' b)) (hs:∀ a b,¬(x = .string a∧y = .string b)) (hf:∀ k a k' b,¬(x = .float k a∧y = .float k' b))
  (hc:∀ k a b k' c d,¬(x = .complex k a b∧y = .complex k' c d)) (w:World):
  (binOp .eql t x y).run P w=((Op.equalIn 10000 t x y).run P w).andThen fun b w' => .ok (.bool b) w':=by
 cases x<;>cases y<;>first
  | (exact absurd ⟨rfl,rfl⟩ (hi _ _ _ _))
  | (exact absurd ⟨rfl,rfl⟩ (hs _ _))
  | (exact absurd ⟨rfl,rfl⟩ (hf _ _ _ _))
  | (exact absurd ⟨rfl,rfl⟩ (hc _ _ _ _ _ _))
  | (simp only[binOp];simp[Op.equal,Op.maxDepth])
theorem qZ {t:TypeId} {x y:Value} (hi:∀ k a k' b,¬(x = .int k a∧y = .int k' b)) (hs:∀ a b,¬(x = .string a∧y = .string b)) (hf:∀ k a k' b,¬(x = .float k a∧y = .float k' b))
  (hc:∀ k a b k' c d,¬(x = .complex k a b∧y = .complex k' c d)) (w:World):
  (binOp .neq t x y).run P w=((Op.equalIn 10000 t x y).run P w).andThen fun b w' => .ok (.bool !b) w':=by
 cases x<;>cases y<;>first
  | (exact absurd ⟨rfl,rfl⟩ (hi _ _ _ _))
  | (exact absurd ⟨rfl,rfl⟩ (hs _ _))
  | (exact absurd ⟨rfl,rfl⟩ (hf _ _ _ _))
  | (exact absurd ⟨rfl,rfl⟩ (hc _ _ _ _ _ _))
  | (simp only[binOp];simp[Op.equal,Op.maxDepth])
theorem sR {d:Nat} {t:TypeId} {k k':FloatKind} {a b:Nat}:∃ w,bE P d t (.float k a) (.float k' b) = .fail w:=by
 cases d with
 |zero=>exact⟨_,rfl⟩
 |succ d=>unfold bE;split<;>first | (exact⟨_,rfl⟩) | (simp_all;done)
theorem pU {d:Nat} {t:TypeId} {k k':FloatKind} {a b a' b':Nat}:∃ w,bE P d t (.complex k a a') (.complex k' b b') = .fail w:=by
 cases d with
 |zero=>exact⟨_,rfl⟩
 |succ d=>unfold bE;split<;>first | (exact⟨_,rfl⟩) | (simp_all;done)
end
end Go.Am
set_option linter.unusedSimpArgs false
set_option linter.unusedVariables false
namespace Go.Am
open Go.RowKit
section
variable {P:Program} {Γ:aV} {W w:World} {h:PT aj} {n:Nat}
theorem ay.yH {x x':Value} (h:ay Γ x x') {k:IntKind} {a:Int} (e:x' = .int k a):x = .int k a:=by subst e;cases h;rfl
theorem ay.pV {x x':Value} (h:ay Γ x x') {s:ByteArray} (e:x' = .string s):x = .string s:=by subst e;cases h;rfl
theorem ay.rH {x x':Value} (h:ay Γ x x') {k:FloatKind} {a:Nat} (e:x' = .float k a):x = .float k a:=by subst e;cases h;rfl
theorem ay.oa {x x':Value} (h:ay Γ x x') {k:FloatKind} {a b:Nat} (e:x' = .complex k a b):x = .complex k a b:=by subst e;cases h;rfl
theorem yI {neg:Bool} {t:TypeId} {ox oy:Operand} {x y x' y':Value} (hx:ay Γ x x') (hy:ay Γ y y') (hS:aR Γ W h w)
  (hi:∀ k a k' b,¬(x = .int k a∧y = .int k' b)) (hs:∀ a b,¬(x = .string a∧y = .string b)):
  ah P Γ W h n w (cond (bH P t (isConst ox) (isConst oy) x y) ((bE P 12 t x y).bind fun b => .pure (.bool (cond neg (!b) b))) (.fail "eqGuard"))
   (do eqGuard (cond neg .neq .eql) t ox oy x' y';binOp (cond neg .neq .eql) t x' y') ay:=by
 cases hg:bH P t (isConst ox) (isConst oy) x y with
 |false=>exact ah.fail
 |true=>
  simp only[cond_true]
  by_cases hf:∃ k a k' b,x = .float k a∧y = .float k' b
  ·obtain⟨k,a,k',b,rfl,rfl⟩:=hf
   obtain⟨why,e⟩:=sR (P:=P) (d:=12) (t:=t) (k:=k) (k':=k') (a:=a) (b:=b)
   rw[e];exact ah.fail
  ·by_cases hc:∃ k a b k' c d,x = .complex k a b∧y = .complex k' c d
   ·obtain⟨k,a,b,k',c,d,rfl,rfl⟩:=hc
    obtain⟨why,e⟩:=pU (P:=P) (d:=12) (t:=t) (k:=k) (k':=k') (a:=a) (a':=b) (b:=c) (b':=d)
    rw[e];exact ah.fail
   ·have hi':∀ k a k' b,¬(x' = .int k a∧y' = .int k' b):=fun k a k' b ⟨e1,e2⟩=>hi k a k' b ⟨hx.yH e1,hy.yH e2⟩
    have hs':∀ a b,¬(x' = .string a∧y' = .string b):=fun a b ⟨e1,e2⟩=>hs a b ⟨hx.pV e1,hy.pV e2⟩
    have hf':∀ k a k' b,¬(x' = .float k a∧y' = .float k' b):=fun k a k' b ⟨e1,e2⟩=>hf ⟨k,a,k',b,hx.rH e1,hy.rH e2⟩
    have GV:∀ k a b k' c d,¬(x' = .complex k a b∧y' = .complex k' c d):=fun k a b k' c d ⟨e1,e2⟩=>hc ⟨k,a,b,k',c,d,hx.oa e1,hy.oa e2⟩
    refine ah.congr (w':=w) (e':=do let b ←Op.equalIn 10000 t x' y';pure (.bool (cond neg (!b) b))) ?_ ?_
    ·cases neg
     ·rw[Sem.run_bind,n_ hx hy hg w,Result.andThen_ok]
      simp only[cond_false]
      rw[qY hi' hs' hf' GV,Sem.run_bind]
      rfl
     ·rw[Sem.run_bind,n_ hx hy hg w,Result.andThen_ok]
      simp only[cond_true]
      rw[qZ hi' hs' hf' GV,Sem.run_bind]
      rfl
    ·refine ah.bind (pT 12 10000 (by omega) Γ t x y x' y' hx hy W h n w hS) fun aI b b' hle hb=>?_
     obtain rfl:b=b':=hb
     intro W h n w hS
     exact ah.ok hS rfl (.bool _)
theorem rI {op:BinOp} {t:TypeId} {a b:ByteArray} {v:Value} (e:strOp op a b=some v) (w:World):
  (binOp op t (.string a) (.string b)).run P w = .ok v w∧ay Γ v v:=by
 cases op<;>simp only[strOp] at e<;>first
  | (simp at e;done)
  | (obtain rfl:=Option.some.inj e;exact⟨by simp[binOp,Op.stringOp],.bool _⟩)
theorem wO {op:BinOp} {t:TypeId} {ox oy:Operand} {x y x' y':Value} (hx:ay Γ x x') (hy:ay Γ y y'):
  dZ P Γ (eC P op t (isConst ox) (isConst oy) x y) (do eqGuard op t ox oy x' y';binOp op t x' y') ay:=by
 intro W h n w hS
 unfold eC
 split
 ·rename_i k a k' b
  cases hx;cases hy
  unfold AP.opt
  split
  ·rename_i v hv
   refine ah.ok hS (b:=v) ?_ (g_ (P:=P) (Γ:=Γ) (t:=t) (k':=k') hv w (.inl rfl)).2
   rw[Sem.run_bind,fc,Result.andThen_ok]
   exact(g_ (Γ:=Γ) hv w (.inl rfl)).1
  ·exact ah.fail
 ·rename_i k a k' b
  cases hx;cases hy
  unfold AP.opt
  split
  ·rename_i v hv
   refine ah.ok hS (b:=v) ?_ (g_ (P:=P) (Γ:=Γ) (t:=t) (k':=k') hv w (.inr rfl)).2
   rw[Sem.run_bind,fc,Result.andThen_ok]
   exact(g_ (Γ:=Γ) hv w (.inr rfl)).1
  ·exact ah.fail
 ·rename_i k a k' b hn1 hn2
  cases hx;cases hy
  split
  ·rename_i hk
   subst hk
   unfold AP.opt
   split
   ·rename_i v hv
    have h1:op ≠ .shl:=fun e=>hn1 e
    have h2:op ≠ .shr:=fun e=>hn2 e
    refine ah.ok hS (b:=v) ?_ (rG (P:=P) (Γ:=Γ) (t:=t) h1 h2 hv w).2
    rw[Sem.run_bind,fc,Result.andThen_ok]
    exact(rG (Γ:=Γ) h1 h2 hv w).1
   ·exact ah.fail
  ·exact ah.fail
 ·rename_i a b
  cases hx;cases hy
  unfold AP.opt
  split
  ·rename_i v hv
   refine ah.ok hS (b:=v) ?_ (rI (P:=P) (Γ:=Γ) (t:=t) hv w).2
   rw[Sem.run_bind,nD,Result.andThen_ok]
   exact(rI (Γ:=Γ) hv w).1
  ·exact ah.fail
 ·rename_i hn1 hn2
  exact yI (neg:=false) hx hy hS (fun k a k' b ⟨e1,e2⟩=>hn1 k a k' b e1 e2) (fun a b ⟨e1,e2⟩=>hn2 a b e1 e2)
 ·rename_i hn1 hn2
  exact yI (neg:=true) hx hy hS (fun k a k' b ⟨e1,e2⟩=>hn1 k a k' b e1 e2) (fun a b ⟨e1,e2⟩=>hn2 a b e1 e2)
 ·exact ah.fail
theorem wP {op:UnOp} {x x' v:Value} (hx:ay Γ x x') (e:nu op x=some v) (w:World):(Op.unary op x').run P w = .ok v w∧ay Γ v v:=by
 unfold nu at e
 split at e
 ·cases hx
  obtain rfl:=Option.some.inj e
  exact⟨by simp[Op.unary,Op.intArith],.int _ _⟩
 ·cases hx
  simp only[intOp,Option.some.injEq] at e
  subst e
  exact⟨by simp[Op.unary,Op.intBits],.int _ _⟩
 ·cases hx
  obtain rfl:=Option.some.inj e
  exact⟨by simp[Op.unary],.bool _⟩
 ·simp at e
theorem sS {s d:TypeId} {x x':Value} (hx:ay Γ x x'):dZ P Γ (jG P s d x) (convert s d x') ay:=by
 intro W h n w hS
 unfold jG
 split
 ·rename_i ds k k' m hs hd
  cases hx
  refine ah.ok hS (b := .int k (k.wrap m)) ?_ (.int _ _)
  simp only[convert,Sem.run_bind,az hs,az hd,Result.andThen_ok]
  rfl
 ·rename_i ds st hs hd
  cases hx
  refine ah.ok hS (b := .string st) ?_ (.string _)
  simp only[convert,Sem.run_bind,az hs,az hd,Result.andThen_ok]
  cases ds<;>rfl
 ·exact ah.fail
theorem lC {t:TypeId} {x x':Value} (hx:ay Γ x x'):dZ P Γ (dB P t x) (Instr.makeInterface t x') ay:=by
 intro W h n w hS
 unfold dB
 split
 ·exact ah.fail
 ·rename_i d hn hd
  refine ah.ok hS (b := .iface t x') ?_ (.iface _ _ _ hx)
  simp only[Instr.makeInterface,Sem.run_bind,az hd,Result.andThen_ok]
  cases d<;>first |rfl | (exact absurd hd (by intro hh;exact hn _ hh))
 ·exact ah.fail
theorem sU {x x':Value} {i:Nat} (hx:ay Γ x x'):dZ P Γ (jI x i) (Instr.extract x' i) ay:=by
 intro W h n w hS
 unfold jI
 split
 ·cases hx with
  |tuple l l' hl=>
   unfold AP.opt
   split
   ·rename_i v hv
    obtain⟨v',e,r⟩:=hl.get hv
    exact ah.ok hS (b:=v') (by simp[Instr.extract,e]) r
   ·exact ah.fail
 ·exact ah.fail
theorem pW {l:List String} (h:Instr.least l=none):l=[]:=by cases l with |nil=>rfl |cons a l=>simp[Instr.least] at h
theorem oc (want:Array (String×TypeId)) (got:Array Method):lW want.toList got.toList=true↔Instr.missingMethod want got=none:=by
 have TD:∀ p:String×TypeId,(got.toList.any fun m=>m.name==p.1&&m.sig==p.2)=got.any fun m=>m.name==p.1&&m.sig==p.2:=fun p=>by simp
 unfold lW Instr.missingMethod
 simp only[TD]
 generalize hm:(want.toList.filter fun p => !(got.any fun m=>m.name==p.1&&m.sig==p.2)).map (·.1)=missing
 have hiff:(want.toList.all fun p=>got.any fun m=>m.name==p.1&&m.sig==p.2)=true↔missing=[]:=by
  rw[←hm,List.map_eq_nil_iff,List.filter_eq_nil_iff,List.all_eq_true]
  constructor
  ·intro hh a ha;simpa using hh a ha
  ·intro hh a ha;simpa using hh a ha
 rw[hiff]
 constructor
 ·rintro rfl
  simp[Instr.least,List.partition,List.partition.loop]
 ·intro hh
  have hp:=List.partition_eq_filter_filter (p:=fun x:String=>x.contains (Char.ofNat 46)) (l:=missing)
  simp only[hp] at hh
  have h1:Instr.least (missing.filter (not∘fun x:String=>x.contains (Char.ofNat 46)))=none:=by
   cases hl:Instr.least (missing.filter (not∘fun x:String=>x.contains (Char.ofNat 46))) with
   |none=>rfl
   |some v=>rw[hl] at hh;simp at hh
  rw[h1] at hh
  have h2:=pW h1
  have h3:=pW (by simpa using hh)
  rw[List.map_eq_nil_iff] at h3
  rw[List.filter_eq_nil_iff] at h2 h3
  cases missing with
  |nil=>rfl
  |cons a l=>
   have a1:=h2 a (by simp)
   have a2:=h3 a (by simp)
   simp at a1 a2
   exact absurd a1 (by simp[a2])
theorem oP {t xt:TypeId} {x x':Value} {ok:Bool} (hx:ay Γ x x'):dZ P Γ (jH P x t ok) (Instr.typeAssert x' xt t ok) ay:=by
 intro W h n w hS
 have Bj:∀ v v',ay Γ v v'→ay Γ (cond ok (.tuple ⟨[v,.bool true]⟩) v) (if ok then .tuple #[v',.bool true] else v'):=by
  intro v v' hv
  cases ok
  ·exact hv
  ·exact .tuple _ _ (.cons _ _ _ _ hv (.cons _ _ _ _ (.bool _) .nil))
 have wQ:∀ (st dy:Option TypeId) (m:String) (e:Sem Value),(∀ z,(∀ w,(zeroValue t).run P w = .ok z w)→ok=true→e.run P w = .ok (.tuple #[z,.bool false]) w)→
   ah P Γ W h n w (lX P t ok) e ay:=by
  intro st dy m e he
  unfold lX
  cases ok
  ·exact ah.fail
  ·simp only[cond_true]
   split
   ·rename_i z hz
    obtain⟨uq,uz⟩:=b_ hz
    exact ah.ok hS (he z uq rfl) (.tuple _ _ (.cons _ _ _ _ (uz Γ) (.cons _ _ _ _ (.bool _) .nil)))
   ·exact ah.fail
 unfold jH
 split
 ·rename_i d hd
  cases hx
  refine wQ none none "" _ fun z hz hok=>?_
  subst hok
  simp only[Instr.typeAssert,Sem.run_bind,az hd,Result.andThen_ok]
  cases d<;>simp[hz]
 ·rename_i want u v hd
  cases hx with
  |iface _ _ v' hv=>
   split
   ·rename_i i hi
    cases hm:lW want.toList i.methods.toList with
    |true=>
     have hm:=(oc _ _).1 hm
     refine ah.ok hS (b:=if ok then .tuple #[.iface u v',.bool true] else .iface u v') ?_ (Bj _ _ (.iface _ _ _ hv))
     simp[Instr.typeAssert,az hd,cF hi,hm]
    |false=>
     obtain⟨m,hm⟩:∃ m,Instr.missingMethod want i.methods=some m:=by
      cases hh:Instr.missingMethod want i.methods with
      |some m=>exact⟨m,rfl⟩
      |none=>rw[(oc _ _).2 hh] at hm;simp at hm
     refine wQ none none "" _ fun z hz hok=>?_
     subst hok
     simp[Instr.typeAssert,az hd,cF hi,hm,hz]
   ·exact ah.fail
 ·rename_i d u v hn hd
  cases hx with
  |iface _ _ v' hv=>
   split
   ·rename_i hu
    subst hu
    refine ah.ok hS (b:=if ok then .tuple #[v',.bool true] else v') ?_ (Bj _ _ hv)
    simp only[Instr.typeAssert,Sem.run_bind,az hd,Result.andThen_ok]
    cases d<;>first |simp |exact absurd hd (fun hh=>hn _ _ _ hh rfl)
   ·rename_i hu
    refine wQ none none "" _ fun z hz hok=>?_
    subst hok
    simp only[Instr.typeAssert,Sem.run_bind,az hd,Result.andThen_ok]
    cases d<;>first |simp[hu,hz] |exact absurd hd (fun hh=>hn _ _ _ hh rfl)
 ·exact ah.fail
end
end Go.Am
