/-
A part.
-/
import Derived.Test.YtofmbmclopgldaaGreatAmG
set_option linter.all false
namespace Go.Am
open Go.RowKit
section
variable {P:Program} {Γ:bL} {W w:World} {h:PT aj} {n:Nat}
theorem zS{op:BinOp}(hs1:op ≠ .shl)(tM:op ≠ .shr){t:TypeId}{k:IntKind}{a b:Int}{v:Value}(e:intOp op k a b=some v)(w:World):
  (binOp op t (.int k a) (.int k b)).run P w = .ok v w∧aD Γ v v:=by
 cases op<;>first | (exact absurd rfl hs1) | (exact absurd rfl tM) |skip
 all_goals
  simp only[intOp] at e
  first
   | (split at e
      ·simp at e
      ·rename_i hb;obtain rfl:=Option.some.inj e;exact⟨by simp[binOp,Op.intDiv,hb],.int _ _⟩)
   | (obtain rfl:=Option.some.inj e
      exact⟨by simp[binOp,Op.intArith,Op.intBits,Op.intCmp],by constructor⟩)
theorem lq{op:BinOp}{t:TypeId}{k k':IntKind}{a b:Int}{v:Value}(e:shiftOp op k a b=some v)(w:World):
  (op = .shl∨op = .shr)→(binOp op t (.int k a) (.int k' b)).run P w = .ok v w∧aD Γ v v:=by
 intro hop;unfold shiftOp at e;split at e
 ·simp at e
 ·rename_i hb
  rcases hop with rfl|rfl
  ·obtain rfl:=Option.some.inj e;exact⟨by simp[binOp,Op.shift,hb],.int _ _⟩
  ·obtain rfl:=Option.some.inj e;exact⟨by simp[binOp,Op.shift,hb],.int _ _⟩
theorem jx(op:BinOp)(t:TypeId)(ox oy:Operand)(k k':IntKind)(a b:Int)(w:World):(eqGuard op t ox oy (.int k a) (.int k' b)).run P w = .ok () w:=by
 cases op<;>simp[eqGuard]
theorem tQ(op:BinOp)(t:TypeId)(ox oy:Operand)(a b:ByteArray)(w:World):(eqGuard op t ox oy (.string a) (.string b)).run P w = .ok () w:=by
 cases op<;>simp[eqGuard]
theorem rZ(d:Nat){t:TypeId}{ms:Array (String×TypeId)}(hd:P.underlying t=some (.interface ms))(w:World):(Op.eqGuardIn (d+1) t .nilIface .nilIface).run P w = .ok (!ms.isEmpty) w:=by
 simp[Op.eqGuardIn,aE hd]
theorem uI{op:BinOp}{t:TypeId}{ox oy:Operand}{x y x' y':Value}(hx:aD Γ x x')(hy:aD Γ y y')(hg:b9 P t (isConst ox) (isConst oy) x y=true)(w:World):
  (eqGuard op t ox oy x' y').run P w = .ok () w:=by
 by_cases hop:(op matches .eql | .neq)=true
 case neg=>cases op<;>first | (simp at hop;done)|simp[eqGuard]
 case pos=>
  cases hx with
  |eN=>
   cases hy with
   |eN=>
    unfold b9 at hg;simp only[Bool.or_eq_true] at hg;have acF:∀ o:Operand,isConst o=true→∃ v,o = .const v:=fun o ho=>by cases o<;>simp[isConst] at ho;exact⟨_,rfl⟩
    rcases hg with (hg |hg) |hg
    ·obtain⟨v,rfl⟩:=acF _ hg;cases op<;>simp[eqGuard]
    ·obtain⟨v,rfl⟩:=acF _ hg;cases op<;>simp[eqGuard]
    ·split at hg
     ·rename_i ms hd;have hgd:∀ w,(Op.eqGuardIn Op.maxDepth t .nilIface .nilIface).run P w = .ok false w:=by
       intro w;have:=rZ (P:=P) 9999 hd w;rw[show ms.isEmpty=true from hg] at this;exact this
      cases op<;>simp only[eqGuard]<;>(repeat' split)<;>simp[hgd]
     ·simp at hg
   | _=>cases op<;>simp[eqGuard]
  |agg l l' hl=>
   cases hy with
   |agg m m' hm=>
    unfold b9 at hg;have:P.eqGuardType P.depth t=false:=by simpa using hg
    exact run_eqGuard_agg w op t ox oy _ _ this
   | _=>cases op<;>simp[eqGuard]
  | _=>cases hy<;>cases op<;>simp[eqGuard]
theorem zy{t:TypeId}{x y:Value}(hi:∀ k a k' b,¬(x = .int k a∧y = .int k' b))(hs:∀ a b,¬(x = .string a∧y = .string b))(hf:∀ k a k' b,¬(x = .float k a∧y = .float k' b))
  (hc:∀ k a b k' c d,¬(x = .complex k a b∧y = .complex k' c d)) (w:World):
  (binOp .eql t x y).run P w=((Op.equalIn 10000 t x y).run P w).andThen fun b w' => .ok (.bool b) w':=by
 cases x<;>cases y<;>first
  | (exact absurd ⟨rfl,rfl⟩ (hi _ _ _ _))
  | (exact absurd ⟨rfl,rfl⟩ (hs _ _))
  | (exact absurd ⟨rfl,rfl⟩ (hf _ _ _ _))
  | (exact absurd ⟨rfl,rfl⟩ (hc _ _ _ _ _ _))
  | (simp only[binOp];simp[Op.equal,Op.maxDepth])
theorem zz{t:TypeId}{x y:Value}(hi:∀ k a k' b,¬(x = .int k a∧y = .int k' b))(hs:∀ a b,¬(x = .string a∧y = .string b))(hf:∀ k a k' b,¬(x = .float k a∧y = .float k' b))
  (hc:∀ k a b k' c d,¬(x = .complex k a b∧y = .complex k' c d)) (w:World):
  (binOp .neq t x y).run P w=((Op.equalIn 10000 t x y).run P w).andThen fun b w' => .ok (.bool !b) w':=by
 cases x<;>cases y<;>first
  | (exact absurd ⟨rfl,rfl⟩ (hi _ _ _ _))
  | (exact absurd ⟨rfl,rfl⟩ (hs _ _))
  | (exact absurd ⟨rfl,rfl⟩ (hf _ _ _ _))
  | (exact absurd ⟨rfl,rfl⟩ (hc _ _ _ _ _ _))
  | (simp only[binOp];simp[Op.equal,Op.maxDepth])
theorem Bf{d:Nat}{t:TypeId}{k k':FloatKind}{a b:Nat}:∃ w,cj P d t (.float k a) (.float k' b) = .fail w:=by
 cases d with
 |zero=>exact⟨_,rfl⟩
 |succ d=>unfold cj;split<;>first | (exact⟨_,rfl⟩) | (simp_all;done)
theorem wW{d:Nat}{t:TypeId}{k k':FloatKind}{a b a' b':Nat}:∃ w,cj P d t (.complex k a a') (.complex k' b b') = .fail w:=by
 cases d with
 |zero=>exact⟨_,rfl⟩
 |succ d=>unfold cj;split<;>first | (exact⟨_,rfl⟩) | (simp_all;done)
end
end Go.Am
namespace Go.Am
open Go.RowKit
section
variable {P:Program} {Γ:bL} {W w:World} {h:PT aj} {n:Nat}
theorem aD.H8{x x':Value}(h:aD Γ x x'){k:IntKind}{a:Int}(e:x' = .int k a):x = .int k a:=by subst e;cases h;rfl
theorem aD.wX{x x':Value}(h:aD Γ x x'){s:ByteArray}(e:x' = .string s):x = .string s:=by subst e;cases h;rfl
theorem aD.zT{x x':Value}(h:aD Γ x x'){k:FloatKind}{a:Nat}(e:x' = .float k a):x = .float k a:=by subst e;cases h;rfl
theorem aD.uJ{x x':Value}(h:aD Γ x x'){k:FloatKind}{a b:Nat}(e:x' = .complex k a b):x = .complex k a b:=by subst e;cases h;rfl
theorem H9{neg:Bool}{t:TypeId}{ox oy:Operand}{x y x' y':Value}(hx:aD Γ x x')(hy:aD Γ y y')(hS:bK Γ W h w)
  (hi:∀ k a k' b,¬(x = .int k a∧y = .int k' b)) (hs:∀ a b,¬(x = .string a∧y = .string b)):
  ak P Γ W h n w (cond (b9 P t (isConst ox) (isConst oy) x y) ((cj P 12 t x y).bind fun b => .pure (.bool (cond neg (!b) b))) (.fail "eqGuard"))
   (do eqGuard (cond neg .neq .eql) t ox oy x' y';binOp (cond neg .neq .eql) t x' y') aD:=by
 cases hg:b9 P t (isConst ox) (isConst oy) x y with
 |false=>exact ak.fail
 |true=>
  simp only[cond_true];by_cases hf:∃ k a k' b,x = .float k a∧y = .float k' b
  ·obtain⟨k,a,k',b,rfl,rfl⟩:=hf;obtain⟨why,e⟩:=Bf (P:=P) (d:=12) (t:=t) (k:=k) (k':=k') (a:=a) (b:=b);rw[e];exact ak.fail
  ·by_cases hc:∃ k a b k' c d,x = .complex k a b∧y = .complex k' c d
   ·obtain⟨k,a,b,k',c,d,rfl,rfl⟩:=hc;obtain⟨why,e⟩:=wW (P:=P) (d:=12) (t:=t) (k:=k) (k':=k') (a:=a) (a':=b) (b:=c) (b':=d);rw[e];exact ak.fail
   ·have hi':∀ k a k' b,¬(x' = .int k a∧y' = .int k' b):=fun k a k' b ⟨e1,e2⟩=>hi k a k' b ⟨hx.H8 e1,hy.H8 e2⟩;have hs':∀ a b,¬(x' = .string a∧y' = .string b):=fun a b ⟨e1,e2⟩=>hs a b ⟨hx.wX e1,hy.wX e2⟩;have hf':∀ k a k' b,¬(x' = .float k a∧y' = .float k' b):=fun k a k' b ⟨e1,e2⟩=>hf ⟨k,a,k',b,hx.zT e1,hy.zT e2⟩;have VM:∀ k a b k' c d,¬(x' = .complex k a b∧y' = .complex k' c d):=fun k a b k' c d ⟨e1,e2⟩=>hc ⟨k,a,b,k',c,d,hx.uJ e1,hy.uJ e2⟩;refine ak.congr (w':=w) (e':=do let b ←Op.equalIn 10000 t x' y';pure (.bool (cond neg (!b) b))) ?_ ?_
    ·cases neg
     ·rw[Sem.run_bind,uI hx hy hg w,Result.andThen_ok];simp only[cond_false];rw[zy hi' hs' hf' VM,Sem.run_bind];rfl
     ·rw[Sem.run_bind,uI hx hy hg w,Result.andThen_ok];simp only[cond_true];rw[zz hi' hs' hf' VM,Sem.run_bind];rfl
    ·refine ak.bind (wV 12 10000 qJ Γ t x y x' y' hx hy W h n w hS) fun aY b b' hle hb=>?_;obtain rfl:b=b':=hb;intro W h n w hS;exact ak.ok hS rfl (.bool _)
theorem zU{op:BinOp}{t:TypeId}{a b:ByteArray}{v:Value}(e:strOp op a b=some v)(w:World):
  (binOp op t (.string a) (.string b)).run P w = .ok v w∧aD Γ v v:=by
 cases op<;>simp only[strOp] at e<;>first
  | (simp at e;done)
  | (obtain rfl:=Option.some.inj e;exact⟨by simp[binOp,Op.stringOp],.bool _⟩)
theorem FQ{op:BinOp}{t:TypeId}{ox oy:Operand}{x y x' y':Value}(hx:aD Γ x x')(hy:aD Γ y y'):
  iA P Γ (eE P op t (isConst ox) (isConst oy) x y) (do eqGuard op t ox oy x' y';binOp op t x' y') aD:=by
 intro W h n w hS;unfold eE;split
 ·rename_i k a k' b;cases hx;cases hy;unfold AP.opt;split
  ·rename_i v hv;refine ak.ok hS (b:=v) ?_ (lq (P:=P) (Γ:=Γ) (t:=t) (k':=k') hv w (.inl rfl)).2;rw[Sem.run_bind,jx,Result.andThen_ok];exact(lq (Γ:=Γ) hv w (.inl rfl)).1
  ·exact ak.fail
 ·rename_i k a k' b;cases hx;cases hy;unfold AP.opt;split
  ·rename_i v hv;refine ak.ok hS (b:=v) ?_ (lq (P:=P) (Γ:=Γ) (t:=t) (k':=k') hv w (.inr rfl)).2;rw[Sem.run_bind,jx,Result.andThen_ok];exact(lq (Γ:=Γ) hv w (.inr rfl)).1
  ·exact ak.fail
 ·rename_i k a k' b hn1 hn2;cases hx;cases hy;split
  ·rename_i hk;subst hk;unfold AP.opt;split
   ·rename_i v hv;have h1:op ≠ .shl:=fun e=>hn1 e;have h2:op ≠ .shr:=fun e=>hn2 e;refine ak.ok hS (b:=v) ?_ (zS (P:=P) (Γ:=Γ) (t:=t) h1 h2 hv w).2;rw[Sem.run_bind,jx,Result.andThen_ok];exact(zS (Γ:=Γ) h1 h2 hv w).1
   ·exact ak.fail
  ·exact ak.fail
 ·rename_i a b;cases hx;cases hy;unfold AP.opt;split
  ·rename_i v hv;refine ak.ok hS (b:=v) ?_ (zU (P:=P) (Γ:=Γ) (t:=t) hv w).2;rw[Sem.run_bind,tQ,Result.andThen_ok];exact(zU (Γ:=Γ) hv w).1
  ·exact ak.fail
 ·rename_i hn1 hn2;exact H9 (neg:=false) hx hy hS (fun k a k' b ⟨e1,e2⟩=>hn1 k a k' b e1 e2) (fun a b ⟨e1,e2⟩=>hn2 a b e1 e2)
 ·rename_i hn1 hn2;exact H9 (neg:=true) hx hy hS (fun k a k' b ⟨e1,e2⟩=>hn1 k a k' b e1 e2) (fun a b ⟨e1,e2⟩=>hn2 a b e1 e2)
 ·exact ak.fail
theorem FR{op:UnOp}{x x' v:Value}(hx:aD Γ x x')(e:oz op x=some v)(w:World):(Op.unary op x').run P w = .ok v w∧aD Γ v v:=by
 unfold oz at e;split at e
 ·cases hx;obtain rfl:=Option.some.inj e;exact⟨by simp[Op.unary,Op.intArith],.int _ _⟩
 ·cases hx;simp only[intOp,Option.some.injEq] at e;subst e;exact⟨by simp[Op.unary,Op.intBits],.int _ _⟩
 ·cases hx;obtain rfl:=Option.some.inj e;exact⟨by simp[Op.unary],.bool _⟩
 ·simp at e
theorem Bh{s d:TypeId}{x x':Value}(hx:aD Γ x x'):iA P Γ (kG P s d x) (convert s d x') aD:=by
 intro W h n w hS;unfold kG;split
 ·rename_i ds k k' m hs hd;cases hx;refine ak.ok hS (b := .int k (k.wrap m)) ?_ (.int _ _);simp only[convert,Sem.run_bind,aE hs,aE hd,Result.andThen_ok];rfl
 ·rename_i ds st hs hd;cases hx;refine ak.ok hS (b := .string st) ?_ (.string _);simp only[convert,Sem.run_bind,aE hs,aE hd,Result.andThen_ok];cases ds<;>rfl
 ·exact ak.fail
theorem qS{t:TypeId}{x x':Value}(hx:aD Γ x x'):iA P Γ (dX P t x) (Instr.makeInterface t x') aD:=by
 intro W h n w hS;unfold dX;split
 ·exact ak.fail
 ·rename_i d hn hd;refine ak.ok hS (b := .iface t x') ?_ (.iface _ _ _ hx);simp only[Instr.makeInterface,Sem.run_bind,aE hd,Result.andThen_ok];cases d<;>first|rfl | (exact absurd hd (by intro hh;exact hn _ hh))
 ·exact ak.fail
theorem Bi{x x':Value}{i:Nat}(hx:aD Γ x x'):iA P Γ (jL x i) (Instr.extract x' i) aD:=by
 intro W h n w hS;unfold jL;split
 ·cases hx with
  |tuple l l' hl=>
   unfold AP.opt;split
   ·rename_i v hv;obtain⟨v',e,r⟩:=hl.get hv;exact ak.ok hS (b:=v') (by simp[Instr.extract,e]) r
   ·exact ak.fail
 ·exact ak.fail
theorem wY{l:List String}(h:Instr.least l=none):l=[]:=by cases l with |nil=>rfl |cons a l=>simp[Instr.least] at h
theorem uK(want:Array (String×TypeId))(got:Array Method):rS want.toList got.toList=true↔Instr.missingMethod want got=none:=by
 have XU:∀ p:String×TypeId,(got.toList.any fun m=>m.name==p.1&&m.sig==p.2)=got.any fun m=>m.name==p.1&&m.sig==p.2:=fun p=>by simp
 unfold rS Instr.missingMethod;simp only[XU];generalize hm:(want.toList.filter fun p => !(got.any fun m=>m.name==p.1&&m.sig==p.2)).map (·.1)=missing;have hiff:(want.toList.all fun p=>got.any fun m=>m.name==p.1&&m.sig==p.2)=true↔missing=[]:=by
  rw[←hm,List.map_eq_nil_iff,List.filter_eq_nil_iff,List.all_eq_true];constructor
  ·intro hh a ha;simpa using hh a ha
  ·intro hh a ha;simpa using hh a ha
 rw[hiff];constructor
 ·rintro rfl;simp[Instr.least,List.partition,List.partition.loop]
 ·intro hh;have hp:=List.partition_eq_filter_filter (p:=fun x:String=>x.contains (Char.ofNat 46)) (l:=missing);simp only[hp] at hh;have h1:Instr.least (missing.filter (not∘fun x:String=>x.contains (Char.ofNat 46)))=none:=by
   cases hl:Instr.least (missing.filter (not∘fun x:String=>x.contains (Char.ofNat 46))) with
   |none=>rfl
   |some v=>rw[hl] at hh;simp at hh
  rw[h1] at hh;have h2:=wY h1;have h3:=wY (by simpa using hh);rw[List.map_eq_nil_iff] at h3;rw[List.filter_eq_nil_iff] at h2 h3;cases missing with
  |nil=>rfl
  |cons a l=>
   have a1:=h2 a (by simp);have a2:=h3 a (by simp);simp at a1 a2;exact absurd a1 (by simp[a2])
theorem vA{t xt:TypeId}{x x':Value}{ok:Bool}(hx:aD Γ x x'):iA P Γ (jK P x t ok) (Instr.typeAssert x' xt t ok) aD:=by
 intro W h n w hS;have Mj:∀ v v',aD Γ v v'→aD Γ (cond ok (.tuple ⟨[v,.bool true]⟩) v) (if ok then .tuple #[v',.bool true] else v'):=by
  intro v v' hv;cases ok
  ·exact hv
  ·exact .tuple _ _ (.cons _ _ _ _ hv (.cons _ _ _ _ (.bool _) .nil))
 have FT:∀ (st dy:Option TypeId) (m:String) (e:Sem Value),(∀ z,(∀ w,(zeroValue t).run P w = .ok z w)→ok=true→e.run P w = .ok (.tuple #[z,.bool false]) w)→
   ak P Γ W h n w (rT P t ok) e aD:=by
  intro st dy m e he;unfold rT;cases ok
  ·exact ak.fail
  ·simp only[cond_true];split
   ·rename_i z hz;obtain⟨CQ,Dc⟩:=dS hz;exact ak.ok hS (he z CQ rfl) (.tuple _ _ (.cons _ _ _ _ (Dc Γ) (.cons _ _ _ _ (.bool _) .nil)))
   ·exact ak.fail
 unfold jK;split
 ·rename_i d hd;cases hx;refine FT none none "" _ fun z hz hok=>?_;subst hok;simp only[Instr.typeAssert,Sem.run_bind,aE hd,Result.andThen_ok];cases d<;>simp[hz]
 ·rename_i want u v hd;cases hx with
  |iface _ _ v' hv=>
   split
   ·rename_i i hi;cases hm:rS want.toList i.methods.toList with
    |true=>
     have hm:=(uK _ _).1 hm;refine ak.ok hS (b:=if ok then .tuple #[.iface u v',.bool true] else .iface u v') ?_ (Mj _ _ (.iface _ _ _ hv));simp[Instr.typeAssert,aE hd,eO hi,hm]
    |false=>
     obtain⟨m,hm⟩:∃ m,Instr.missingMethod want i.methods=some m:=by
      cases hh:Instr.missingMethod want i.methods with
      |some m=>exact⟨m,rfl⟩
      |none=>rw[(uK _ _).2 hh] at hm;simp at hm
     refine FT none none "" _ fun z hz hok=>?_;subst hok;simp[Instr.typeAssert,aE hd,eO hi,hm,hz]
   ·exact ak.fail
 ·rename_i d u v hn hd;cases hx with
  |iface _ _ v' hv=>
   split
   ·rename_i hu;subst hu;refine ak.ok hS (b:=if ok then .tuple #[v',.bool true] else v') ?_ (Mj _ _ hv);simp only[Instr.typeAssert,Sem.run_bind,aE hd,Result.andThen_ok];cases d<;>first|simp|exact absurd hd (fun hh=>hn _ _ _ hh rfl)
   ·rename_i hu;refine FT none none "" _ fun z hz hok=>?_;subst hok;simp only[Instr.typeAssert,Sem.run_bind,aE hd,Result.andThen_ok];cases d<;>first|simp[hu,hz]|exact absurd hd (fun hh=>hn _ _ _ hh rfl)
 ·exact ak.fail
end
end Go.Am
