/-
A part.
-/
import Derived.Test.YtofmbmclopgldaaGreatAmM
import Derived.KernelRfl
set_option linter.all false
namespace Go.Am
open Go.RowKit
section
variable {P:Program} {Γ:bL} {W w:World} {h:PT aj} {n:Nat}
theorem Ga{t:TypeId}{x x':Value}(hx:aD Γ x x'):iA P Γ (wJ P t x) (Instr.range t x') aD:=by
 intro W h n w hS;unfold wJ;split
 ·rename_i k e hd;cases hx;refine ak.new fun hn=>?_;obtain⟨aY,hst,hb,ku⟩:=hS.jw hn (.mapIter none 0 #[] 0) (.iter none 0 [] 0) rfl (fun aY w' _ h1=>⟨rfl,none,h1,fun _=>rfl,fun r e=>by cases e⟩);refine⟨aY,_,pure (.pointer (some ⟨w.heap.size,0,none⟩)),hst,?_,ak.ok ku rfl (.ptr _ _ ⟨rfl,rfl,0,hb,rfl⟩)⟩;simp[Instr.range,aE hd]
 ·rename_i k e r hd;cases hx with
  |map _ r' hr=>
   refine ak.get fun B hB=>?_;split
   ·rename_i es clk;obtain⟨b,s,e,⟨rfl,aZ,h1,h2⟩,_⟩:=hS.live _ _ hB;rw[hr] at e;obtain⟨rfl,_⟩:r'=b∧0=0:=by simpa using e
    refine ak.new fun hn=>?_;obtain⟨aY,hst,hb,ku⟩:=hS.jw hn (.mapIter (some r') clk #[] clk) (.iter (some r) clk [] clk) rfl
     (fun aY w' hle h1=>⟨rfl,some r',h1,(fun e=>by cases e),(fun q e=>by cases e;exact⟨r',rfl,hle.blk _ _ hr⟩)⟩)
    refine⟨aY,_,pure (.pointer (some ⟨w.heap.size,0,none⟩)),hst,?_,ak.ok ku rfl (.ptr _ _ ⟨rfl,rfl,0,hb,rfl⟩)⟩;have Bm:(getObj r').run P w = .ok (.map aZ clk) w:=by simp[getObj,Sem.run,h1]
    simp[Instr.range,aE hd,Bm]
   ·exact ak.fail
 ·exact ak.fail
theorem bZ.filter(p:Nat→Bool):∀ {es:List (Value×Value×Nat)} {aZ:List MapEntry},bZ Γ es aZ→bZ Γ (es.filter fun e=>p e.2.2) (aZ.filter fun e=>p e.born)
 | _,_,.nil => .nil
 | _,_,.cons a e l l' h1 h2 hb t=>by
  have ih:=bZ.filter p t;simp only[List.filter_cons,←hb];split
  ·exact .cons a e _ _ h1 h2 hb ih
  ·exact ih
theorem bZ.all(p:Nat→Bool):∀ {es:List (Value×Value×Nat)} {aZ:List MapEntry},bZ Γ es aZ→(aZ.all fun e=>p e.born)=es.all fun e=>p e.2.2
 | _,_,.nil=>rfl
 | _,_,.cons a e l l' h1 h2 hb t=>by
  simp only[List.all_cons,←hb,bZ.all p t]
theorem bZ.find(p:Nat→Bool):∀ {es:List (Value×Value×Nat)} {aZ:List MapEntry},bZ Γ es aZ→∀ a,(es.find? fun e=>p e.2.2)=some a→
  ∃ e,(aZ.find? fun e=>p e.born)=some e∧aD Γ a.1 e.key∧aD Γ a.2.1 e.val
 | _,_,.nil,a,h=>by simp at h
 | _,_,.cons a e l l' h1 h2 hb t,x,h=>by
  simp only[List.find?_cons,←hb] at h ⊢;split at h
  ·obtain rfl:=Option.some.inj h;exact⟨e,by simp_all,h1,h2⟩
  ·obtain⟨e',he,hr⟩:=bZ.find p t x h;exact⟨e',by simp_all,hr⟩
theorem xg(a b:Nat):Nat.beq a b=(a==b):=by
 rw[Bool.eq_iff_iff];constructor
 ·intro h;rw[Nat.eq_of_beq_eq_true h];simp
 ·intro h;rw[eq_of_beq h];exact Nat.beq_refl _
theorem Gb(a b:Nat):Nat.ble a b=decide (a≤b):=by
 rw[Bool.eq_iff_iff];simp[Nat.ble_eq]
theorem any_beq(l:List Nat)(b:Nat):l.any (Nat.beq b)=(⟨l⟩:Array Nat).contains b:=by
 rw[Bool.eq_iff_iff,List.any_eq_true];simp only[List.contains_toArray,List.contains_iff_mem];constructor
 ·rintro ⟨x,hx,hb⟩;rw[Nat.eq_of_beq_eq_true hb];exact hx
 ·intro hm;exact⟨b,hm,Nat.beq_refl b⟩
theorem JQ{t:TypeId}{x x':Value}{isS:Bool}(hx:aD Γ x x'):iA P Γ (CX x isS) (Instr.next x' isS t) aD:=by
 intro W h n w hS;unfold CX;split
 ·rename_i a;cases hx with
  |ptr _ a' ha=>
   cases hoff:Nat.beq a.off 0 with
   |false=>exact ak.fail
   |true=>
    have hoff:=beq_true hoff;simp only[cond_true];refine ak.get fun B hB=>?_;obtain⟨s,hblk,ho⟩:=ha.at_;obtain⟨b,s0,e,Ru,_⟩:=hS.live _ _ hB;rw[hblk] at e;obtain⟨rfl,rfl⟩:a'.block=b∧s=s0:=by simpa using e
    split
    ·obtain⟨rfl,m',h1,h2,_⟩:=Ru;obtain rfl:=h2 rfl;have ha0:a'.off=0:=by omega
     refine ak.ok hS (b := .tuple #[.bool false]) ?_ (.tuple _ _ (.cons _ _ _ _ (.bool _) .nil));obtain⟨ab,ao,asp⟩:=a';simp only at ha0 h1;subst ha0;simp[Instr.next,getObj,Sem.run,h1]
    ·rename_i m since seen last _;obtain⟨rfl,m',h1,_,h3⟩:=Ru;obtain⟨r',rfl,hr⟩:=h3 m rfl;have ha0:a'.off=0:=by omega
     refine ak.get fun C hC=>?_;split
     ·rename_i es clk;obtain⟨b,s,e,⟨rfl,aZ,g1,g2⟩,_⟩:=hS.live _ _ hC;rw[hr] at e;obtain⟨rfl,_⟩:r'=b∧0=0:=by simpa using e
      obtain⟨ab,ao,asp⟩:=a';simp only at ha0 h1;subst ha0;have Si:(getObj ab).run P w = .ok (.mapIter (some r') since ⟨seen⟩ last) w:=by simp[getObj,Sem.run,h1]
      have Sj:(getObj r').run P w = .ok (.map aZ clk) w:=by simp[getObj,Sem.run,g1]
      have hall:(aZ.all fun e=>decide (e.born≥last))=es.all fun e=>Nat.ble last e.2.2:=by
       rw[←g2.all (fun b=>Nat.ble last b)];rw[←Array.all_toList]
       congr 1
       funext e
       exact(Gb _ _).symm
      have FW:aZ.isEmpty=es.isEmpty:=by
       have:=g2.length;rw[Bool.eq_iff_iff];simp only[Array.isEmpty_iff_size_eq_zero,List.isEmpty_iff_length_eq_zero];simp at this;omega
      cases hnew:(!seen.isEmpty && !es.isEmpty&&es.all (fun e=>Nat.ble last e.2.2)) with
      |true=>exact ak.fail
      |false=>
       simp only[cond_false];have VU:((!(⟨seen⟩:Array Nat).isEmpty && !aZ.isEmpty&&aZ.all fun e=>decide (e.born≥last)):Bool)=false:=by
        rw[hall,FW,←hnew];simp
       have Dk:=g2.filter (fun b => !seen.any (Nat.beq b));have hleft:(aZ.filter fun e => !(⟨seen⟩:Array Nat).contains e.born).toList=aZ.toList.filter fun e => !seen.any (Nat.beq e.born):=by
        simp only[Array.toList_filter]
        congr 1
        funext e
        rw[any_beq]
       split
       ·rename_i hes;rw[hes] at Dk;have oK:aZ.filter (fun e => !(⟨seen⟩:Array Nat).contains e.born)=#[]:=by
         apply Array.ext';rw[hleft];cases hq:aZ.toList.filter fun e => !seen.any (Nat.beq e.born) with
         |nil=>rfl
         |cons y ys=>rw[hq] at Dk;cases Dk
        refine ak.ok hS (b := .tuple #[.bool false]) ?_ (.tuple _ _ (.cons _ _ _ _ (.bool _) .nil));simp only[Instr.next,Sem.run_bind,Si,Result.andThen_ok,Sj,VU,Bool.false_eq_true,if_false,oK];simp[Question.forced]
       ·rename_i en hes;cases hlt:Nat.blt en.2.2 since with
        |false=>exact ak.fail
        |true=>
         have hlt:en.2.2<since:=Nat.blt_eq.mp hlt;simp only[cond_true];rw[hes] at Dk;obtain⟨y,hy,hky,hvy,hby⟩:∃ y,aZ.toList.filter (fun e => !seen.any (Nat.beq e.born))=[y]∧aD Γ en.1 y.key∧aD Γ en.2.1 y.val∧en.2.2=y.born:=by
          cases hq:aZ.toList.filter fun e => !seen.any (Nat.beq e.born) with
          |nil=>rw[hq] at Dk;cases Dk
          |cons y ys=>
           rw[hq] at Dk;cases Dk with
           |cons _ _ _ _ h1 h2 h3 ht=>cases ht;exact⟨y,rfl,h1,h2,h3⟩
         have hone:aZ.filter (fun e => !(⟨seen⟩:Array Nat).contains e.born)=#[y]:=by
          apply Array.ext';rw[hleft,hy]
         have acP:Γ.blk a.block=some (ab,0):=hblk;have ku:=hS.wP (B' := .iter (some m) since (seen++[en.2.2]) clk) (o := .mapIter (some r') since ⟨seen++[y.born]⟩ clk) hB acP trivial trivial
          (fun w' ⟨_,m',q,_⟩=>⟨_,q,rfl⟩) rfl (fun w' q=>⟨rfl,some r',by rw[hby];exact q,(fun e=>by cases e),(fun z e=>by cases e;exact⟨r',rfl,hr⟩)⟩)
         refine ak.set (e':=pure (.tuple #[.bool true,y.key,y.val])) ?_ (ak.ok ku rfl (.tuple _ _ (.cons _ _ _ _ (.bool _) (.cons _ _ _ _ hky (.cons _ _ _ _ hvy .nil)))));have Ft:∀ o,(setObj ab o).run P w = .ok () { w with heap:=w.heap.setIfInBounds ab o }:=fun o=>by simp[setObj,Sem.run,h1]
         have zn:y.born<since:=by omega
         simp only[Instr.next,Sem.run_bind,Si,Result.andThen_ok,Sj,VU,Bool.false_eq_true,if_false,hone];have f1:(#[y]:Array MapEntry).filter (fun e=>decide (e.born<since))=#[y]:=by simp[zn]
         have f2:(#[y]:Array MapEntry).filter (fun e=>decide (e.born≥since))=#[]:=by simp;omega
         rw[f1,f2];simp[Question.forced,Ft]
       ·exact ak.fail
     ·exact ak.fail
    ·exact ak.fail
 ·exact ak.fail
theorem Gd{x x':Value}(hx:aD Γ x x'):iA P Γ (wK x) (Instr.entry x') aD:=by
 intro W h n w hS;unfold wK;split
 ·rename_i a;cases hx with
  |ptr _ a' ha=>
   cases hoff:Nat.beq a.off 0 with
   |false=>exact ak.fail
   |true=>
    have hoff:=beq_true hoff;simp only[cond_true];refine ak.get fun B hB=>?_;obtain⟨s,hblk,ho⟩:=ha.at_;obtain⟨b,s0,e,Ru,_⟩:=hS.live _ _ hB;rw[hblk] at e;obtain⟨rfl,rfl⟩:a'.block=b∧s=s0:=by simpa using e
    split
    ·rename_i m since seen last _;obtain⟨rfl,m',h1,_,h3⟩:=Ru;obtain⟨r',rfl,hr⟩:=h3 m rfl;have ha0:a'.off=0:=by omega
     split
     ·rename_i stamp hst;refine ak.get fun C hC=>?_;split
      ·rename_i es clk;obtain⟨b,s,e,⟨rfl,aZ,g1,g2⟩,_⟩:=hS.live _ _ hC;rw[hr] at e;obtain⟨rfl,_⟩:r'=b∧0=0:=by simpa using e
       cases hc:Nat.beq clk last with
       |false=>exact ak.fail
       |true=>
        have hc:=beq_true hc;subst hc;simp only[cond_true];split
        ·rename_i en LN;obtain⟨y,hy,hk,hv⟩:=g2.find (fun b=>Nat.beq b stamp) en LN;refine ak.ok hS (b := .tuple #[y.key,y.val]) ?_ (.tuple _ _ (.cons _ _ _ _ hk (.cons _ _ _ _ hv .nil)));obtain⟨ab,ao,asp⟩:=a';simp only at ha0 h1;subst ha0;have Si:(getObj ab).run P w = .ok (.mapIter (some r') since ⟨seen⟩ clk) w:=by simp[getObj,Sem.run,h1]
         have Sj:(getObj r').run P w = .ok (.map aZ clk) w:=by simp[getObj,Sem.run,g1]
         have acQ:(⟨seen⟩:Array Nat).back? = some stamp:=by simpa using hst
         have hfind:aZ.find? (fun e=>e.born==stamp)=some y:=by
          rw[←Array.find?_toList,←hy];congr 1;funext e;exact(xg _ _).symm
         simp[Instr.entry,Si,Sj,acQ,hfind]
        ·exact ak.fail
      ·exact ak.fail
     ·exact ak.fail
    ·exact ak.fail
 ·exact ak.fail
end
end Go.Am
namespace Go.Am
open Go.RowKit
theorem Ge:Extern.allNextRows.lookup ""=none:=by kernel_rfl
theorem JR:Extern.allNextRows.lookup "sync/atomic.LoadUint64"=none:=by kernel_rfl
theorem Gf:Extern.allNextRows.lookup "sync/atomic.StoreUint64"=none:=by kernel_rfl
theorem JS:Extern.allNextRows.lookup "sync/atomic.SwapUint64"=none:=by kernel_rfl
theorem Mq:Extern.allNextRows.lookup "sync/atomic.CompareAndSwapUint64"=none:=by kernel_rfl
theorem Mr:Extern.allNextRows.lookup "sync/atomic.AddUint64"=none:=by kernel_rfl
theorem Ms:Extern.allGenericRows.lookup "sync/atomic.LoadUint64"=none:=by kernel_rfl
theorem JT:Extern.allGenericRows.lookup "sync/atomic.StoreUint64"=none:=by kernel_rfl
theorem Mt:Extern.allGenericRows.lookup "sync/atomic.SwapUint64"=none:=by kernel_rfl
theorem Sk:Extern.allGenericRows.lookup "sync/atomic.CompareAndSwapUint64"=none:=by kernel_rfl
theorem Sl:Extern.allGenericRows.lookup "sync/atomic.AddUint64"=none:=by kernel_rfl
theorem Gg:Extern.allTypedRows.lookup "sync/atomic.LoadUint64"=none:=by kernel_rfl
theorem Dl:Extern.allTypedRows.lookup "sync/atomic.StoreUint64"=none:=by kernel_rfl
theorem Gh:Extern.allTypedRows.lookup "sync/atomic.SwapUint64"=none:=by kernel_rfl
theorem JU:Extern.allTypedRows.lookup "sync/atomic.CompareAndSwapUint64"=none:=by kernel_rfl
theorem JV:Extern.allTypedRows.lookup "sync/atomic.AddUint64"=none:=by kernel_rfl
theorem Mu:Extern.allRows.lookup "sync/atomic.LoadUint64"=some (Extern.Atomic.loadT (.int .u64)):=by kernel_rfl
theorem JW:Extern.allRows.lookup "sync/atomic.StoreUint64"=some Extern.Atomic.storeT:=by kernel_rfl
theorem Mv:Extern.allRows.lookup "sync/atomic.SwapUint64"=some (Extern.Atomic.swapT (.int .u64)):=by kernel_rfl
theorem Sm:Extern.allRows.lookup "sync/atomic.CompareAndSwapUint64"=some (Extern.Atomic.casT (.int .u64)):=by kernel_rfl
theorem Sn:Extern.allRows.lookup "sync/atomic.AddUint64"=some (Extern.Atomic.update (Op.intArith .add) .u64 true):=by kernel_rfl
def fX:Atomic→Array Value→Sem Value
 | .load=>Extern.Atomic.loadT (.int .u64)
 | .store=>Extern.Atomic.storeT
 | .swap=>Extern.Atomic.swapT (.int .u64)
 | .cas=>Extern.Atomic.casT (.int .u64)
 | .add=>Extern.Atomic.update (Op.intArith .add) .u64 true
open Extern.Atomic in
theorem Mw(x:Value):fX .load ⟨[x]⟩=(do read (.int .u64) (←asAddr x)):=rfl
open Extern.Atomic in
theorem JX(x v:Value):fX .store ⟨[x,v]⟩=(do store (←asAddr x) v .atomic;pure none_):=rfl
open Extern.Atomic in
theorem Mx(x v:Value):fX .swap ⟨[x,v]⟩=(do let a ←asAddr x;let old ←read (.int .u64) a;store a v .atomic;pure old):=rfl
open Extern.Atomic in
theorem Sr(x v:Value):fX .add ⟨[x,v]⟩=(do let a ←asAddr x;let old ←read (.int .u64) a;let new ←Op.intArith .add .u64 (←asInt old) (←asInt v);store a new .atomic;pure new):=rfl
open Extern.Atomic in
theorem Ib(x o v:Value):fX .cas ⟨[x,o,v]⟩=(do
  let a ←asAddr x
  if ←touchesFrozen a then unsupported (.unsafePointer "a write to bytes that a string shares")
  let eq ←match T.int .u64,←read (.int .u64) a,o with
   | _,.int _ x,.int _ y=>pure (x==y)
   | .ptr,.pointer x,.pointer y=>samePointer x y
   | .int _,.pointer (some _),.int _ 0 | .int _,.int _ 0,.pointer (some _)=>pure false
   | .int _,.pointer (some _),_ | .int _,_,.pointer (some _)=>unsupported .addressObserved
   | _,_,_=>stuck "atomic.CompareAndSwap: old is no T"
  if eq then store a v .atomic
  pure (.bool eq)):=rfl
section
variable {P:Program} {Γ:bL} {W w:World} {h:PT aj} {n:Nat}
theorem uN(k:Atomic):Extern.allNextRows.lookup (gy k)=none:=by
 cases k
 ·exact JR
 ·exact Gf
 ·exact JS
 ·exact Mq
 ·exact Mr
theorem Dm(k:Atomic):Extern.allGenericRows.lookup (gy k)=none∧Extern.allTypedRows.lookup (gy k)=none∧Extern.allRows.lookup (gy k)=some (fX k):=by
 cases k
 ·exact⟨Ms,Gg,Mu⟩
 ·exact⟨JT,Dl,JW⟩
 ·exact⟨Mt,Gh,Mv⟩
 ·exact⟨Sk,JU,Sm⟩
 ·exact⟨Sl,JV,Sn⟩
theorem Gi{f:FuncId}{fn:Func}{k:Atomic}(hf:P.funcs[f]? = some fn)(hb:fn.body.isSome=false)(hn:fn.name=gy k)(ho:fn.origin=gy k∨fn.origin = "")(args:Array Value)(w:World):
  (callFunc f args).run P w=((fX k args).run P w).andThen fun v w' => .ok (.value v) w':=by
 have XY:(fn.name == "runtime.NumGoroutine")=false:=by rw[hn];cases k<;>decide
 have hb':fn.body.isNone=true:=by cases Rt:fn.body with |none=>rfl |some c=>rw[Rt] at hb;simp at hb
 have hfn:Extern.findNext fn=none:=by
  unfold Extern.findNext;rw[hn];simp only[uN k,Option.map_none]
  rcases ho with ho |ho
  ·rw[ho];simp[uN k]
  ·rw[ho];simp[Ge]
 obtain⟨h1,h2,h3⟩:=Dm k;have hfd:Extern.find fn=some (fX k):=by
  unfold Extern.find;rw[hn];simp only[h1,h2,h3,Option.map_none];simp
 unfold callFunc;simp only[Sem.run_bind,run_program,Result.andThen_ok,hf,XY,Bool.false_eq_true,if_false,hb',if_true,run_mark,hfn,hfd,Sem.run_pure]
theorem Dn(k:Atomic){args args':List Value}(ha:aM Γ args args'):iA P Γ (Bb k args) (fX k ⟨args'⟩) aD:=by
 intro W h n w hS;have VW:∀ (c:PT Value) (a:Addr) (m:Int),gZ c a=some m→c.get a.off=some (.int .u64 m):=by
  intro c a m hw;unfold gZ at hw;split at hw
  ·rename_i hc;obtain rfl:=Option.some.inj hw;exact hc
  ·simp at hw
 have hcell:∀ {a a':Addr} {c:PT Value} {ro:Bool} {m:Int},Γ.addr a a'→h.get a.block=some (.cells c ro)→gZ c a=some m→w.cell? a'=some (.int .u64 m):=by
  intro a a' c ro m oI hb hw;obtain⟨v',e,r⟩:=hS.Me hb (VW _ _ _ hw) oI rfl;cases r;exact e
 have Dp:∀ {a a':Addr} {c:PT Value},Γ.addr a a'→h.get a.block=some (.cells c false)→w.frozen? a'=false:=by
  intro a a' c oI hb;have:=hS.frozen hb oI rfl 0
  simpa [Addr.add] using this
 have j8:∀ {a a':Addr} {c:PT Value} {m:Int} (v:Int),Γ.addr a a'→h.get a.block=some (.cells c false)→gZ c a=some m→
   bK Γ W (h.set a.block (some (.cells (c.set a.off (some (.int .u64 v))) false))) (w.setCell a' (.int .u64 v)):=by
  intro a a' c m v oI hb hw;exact hS.setCell hb oI rfl (.int _ _) (by rw[VW _ _ _ hw];rfl)
 have nu:∀ {a a':Addr} {c:PT Value},Γ.addr a a'→h.get a.block=some (.cells c false)→(w.shape? a'.block).isSome=true:=by
  intro a a' c oI hb;obtain⟨_,_,_,⟨cs,el,fz,h1,_,_⟩,_⟩:=hS.block hb oI rfl;simp[World.shape?,h1]
 unfold Bb;split
 ·rename_i a;cases ha with
  |cons _ _ _ _ hp ht=>
   cases ht;cases hp with
   |ptr _ a' oI=>
    refine ak.get fun B hB=>?_;split
    ·rename_i c ro;split
     ·rename_i m hm;refine ak.ok hS (b := .int .u64 m) ?_ (.int _ _);simp[Mw,Extern.Atomic.read,asAddr,hcell oI hB hm]
     ·exact ak.fail
    ·exact ak.fail
 ·rename_i a v;cases ha with
  |cons _ _ _ _ hp ht=>
   cases ht with
   |cons _ _ _ _ hv ht=>
    cases ht;cases hv;cases hp with
    |ptr _ a' oI=>
     refine ak.get fun B hB=>?_;split
     ·rename_i c;split
      ·rename_i m hm;refine ak.set (e':=pure (.tuple #[])) ?_ (ak.ok (j8 v oI hB hm) rfl (.tuple _ _ .nil));simp[JX,asAddr,run_store P w a' (.int .u64 v) .atomic rfl,hcell oI hB hm,Dp oI hB,Extern.Atomic.none_]
      ·exact ak.fail
     ·exact ak.fail
 ·rename_i a v;cases ha with
  |cons _ _ _ _ hp ht=>
   cases ht with
   |cons _ _ _ _ hv ht=>
    cases ht;cases hv;cases hp with
    |ptr _ a' oI=>
     refine ak.get fun B hB=>?_;split
     ·rename_i c;split
      ·rename_i m hm;refine ak.set (e':=pure (.int .u64 m)) ?_ (ak.ok (j8 v oI hB hm) rfl (.int _ _));simp[Mx,Extern.Atomic.read,asAddr,run_store P w a' (.int .u64 v) .atomic rfl,hcell oI hB hm,Dp oI hB]
      ·exact ak.fail
     ·exact ak.fail
 ·rename_i a o v;cases ha with
  |cons _ _ _ _ hp ht=>
   cases ht with
   |cons _ _ _ _ ho ht=>
    cases ht with
    |cons _ _ _ _ hv ht=>
     cases ht;cases hv;cases ho;cases hp with
     |ptr _ a' oI=>
      refine ak.get fun B hB=>?_;split
      ·rename_i c;split
       ·rename_i m hm;have htf:∀ w',w'=w→(Extern.Atomic.touchesFrozen a').run P w' = .ok false w:=by
         rintro w' rfl;simp[Extern.Atomic.touchesFrozen,viewAt,nu oI hB,Dp oI hB]
        cases heq:m==o with
        |true=>
         have heq:m=o:=by simpa using heq
         refine ak.set (e':=pure (.bool true)) ?_ (ak.ok (j8 v oI hB hm) rfl (.bool _));simp[Ib,Extern.Atomic.read,asAddr,htf w rfl,hcell oI hB hm,heq,run_store P w a' (.int .u64 v) .atomic rfl,Dp oI hB]
        |false=>
         have heq: ¬ m=o:=by simpa using heq
         refine ak.ok hS (b := .bool false) ?_ (.bool _);simp[Ib,Extern.Atomic.read,asAddr,htf w rfl,hcell oI hB hm,heq]
       ·exact ak.fail
      ·exact ak.fail
 ·rename_i a v;cases ha with
  |cons _ _ _ _ hp ht=>
   cases ht with
   |cons _ _ _ _ hv ht=>
    cases ht;cases hv;cases hp with
    |ptr _ a' oI=>
     refine ak.get fun B hB=>?_;split
     ·rename_i c;split
      ·rename_i m hm;refine ak.set (e':=pure (.int .u64 (IntKind.u64.wrap (m+v)))) ?_ (ak.ok (j8 _ oI hB hm) rfl (.int _ _));simp[Sr,Extern.Atomic.read,asAddr,asInt,asIntOf,Op.intArith,run_store P w a' (.int .u64 (IntKind.u64.wrap (m+v))) .atomic rfl,hcell oI hB hm,Dp oI hB]
      ·exact ak.fail
     ·exact ak.fail
 ·exact ak.fail
theorem zA(z:Array Value)(k:Nat)(hz:0<z.size):Builtin.zeroCells z k=⟨rep z.toList k⟩:=p_ z k hz
theorem Gj{ts:Array TypeId}{ty:TypeId}{args args':List Value}(ha:aM Γ args args'):iA P Γ (FF P ts.toList args) (Builtin.clear_ ts ty ⟨args'⟩) aD:=by
 intro W h n w hS;unfold FF;split
 ·rename_i t tr k c rest hts;obtain⟨tl⟩:=ts;obtain rfl:tl=t::tr:=hts;cases ha with
  |cons _ _ _ _ hx ha=>
   cases hx;split
   ·rename_i d hd;exact ak.ok hS (b := .tuple #[]) (by simp[Builtin.clear_,aE hd]) (.tuple _ _ .nil)
   ·exact ak.fail
 ·rename_i t tr a k c rest hts;obtain⟨tl⟩:=ts;obtain rfl:tl=t::tr:=hts;cases ha with
  |cons _ _ _ _ hx ha=>
   cases hx with
   |slice _ a' _ _ c' ha0 hc=>
    split
    ·rename_i e hd;cases hk:Nat.beq k 0 with
     |true=>
      have hk:=beq_true hk;subst hk;exact ak.ok hS (b := .tuple #[]) (by simp[Builtin.clear_,aE hd]) (.tuple _ _ .nil)
     |false=>
      have hk:k≠0:=fun e=>by rw[e] at hk;exact Bool.noConfusion hk
      have oI:=ha0.exact (.inl qJ);simp only[cond_false];split
      ·rename_i i z hi hz;obtain⟨CQ,Dc⟩:=dS hz;cases hpos:Nat.blt 0 z.cells.toList.length with
       |false=>exact ak.fail
       |true=>
        have hpos:0<z.cells.toList.length:=Nat.blt_eq.mp hpos;simp only[cond_true];refine ak.get fun B hB=>?_;split
        ·rename_i cc;split
         ·rename_i c2 LO;obtain⟨w',hr,ku⟩:=gF (P:=P) (i:=a.block) (a:=a) (a':=a') rfl _ _ cc c2 0 h w oI hS hB ((Dc Γ).cells.rep k) (by simpa using LO);refine ak.set (w':=w') (e':=pure (.tuple #[])) ?_ (ak.ok ku rfl (.tuple _ _ .nil));have hzc:=zA z.cells k (by simpa using hpos);simp[Builtin.clear_,aE hd,hk,CQ,hzc,hr]
         ·exact ak.fail
        ·exact ak.fail
      ·exact ak.fail
    ·exact ak.fail
 ·exact ak.fail
end
end Go.Am
