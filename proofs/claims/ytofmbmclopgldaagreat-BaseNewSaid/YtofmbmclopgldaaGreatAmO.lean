/-
  A part of the proof: contracts of inner functions.
-/
import Derived.Test.YtofmbmclopgldaaGreatAmM
import Derived.KernelRfl
set_option linter.unusedSimpArgs false
set_option linter.unusedVariables false
namespace Go.Am
open Go.RowKit
section
variable {P:Program} {Γ:br} {W w:World} {h:PT ak} {n:Nat}
theorem Ab {t:TypeId} {x x':Value} (hx:aA Γ x x'):fD P Γ (rI P t x) (Instr.range t x') aA:=by
 intro W h n w hS
 unfold rI
 split
 ·rename_i k e hd
  cases hx
  refine aj.new fun hn=>?_
  obtain⟨aS,hst,hb,iO⟩:=hS.gL hn (.mapIter none 0 #[] 0) (.iter none 0 [] 0) rfl (fun aS w' _ h1=>⟨rfl,none,h1,fun _=>rfl,fun r e=>by cases e⟩)
  refine⟨aS,_,pure (.pointer (some ⟨w.heap.size,0,none⟩)),hst,?_,aj.ok iO rfl (.ptr _ _ ⟨rfl,rfl,0,hb,rfl⟩)⟩
  simp[Instr.range,az hd]
 ·rename_i k e r hd
  cases hx with
  |map _ r' hr=>
   refine aj.get fun B hB=>?_
   split
   ·rename_i es clk
    obtain⟨b,s,e,⟨rfl,aU,h1,h2⟩,_⟩:=hS.live _ _ hB
    rw[hr] at e
    obtain⟨rfl,_⟩:r'=b∧0=0:=by simpa using e
    refine aj.new fun hn=>?_
    obtain⟨aS,hst,hb,iO⟩:=hS.gL hn (.mapIter (some r') clk #[] clk) (.iter (some r) clk [] clk) rfl
     (fun aS w' hle h1=>⟨rfl,some r',h1,(fun e=>by cases e),(fun q e=>by cases e;exact⟨r',rfl,hle.blk _ _ hr⟩)⟩)
    refine⟨aS,_,pure (.pointer (some ⟨w.heap.size,0,none⟩)),hst,?_,aj.ok iO rfl (.ptr _ _ ⟨rfl,rfl,0,hb,rfl⟩)⟩
    have vK:(getObj r').run P w = .ok (.map aU clk) w:=by simp[getObj,Sem.run,h1]
    simp[Instr.range,az hd,vK]
   ·exact aj.fail
 ·exact aj.fail
theorem bF.filter (p:Nat→Bool):∀ {es:List (Value×Value×Nat)} {aU:List MapEntry},bF Γ es aU→bF Γ (es.filter fun e=>p e.2.2) (aU.filter fun e=>p e.born)
 | _,_,.nil => .nil
 | _,_,.cons a e l l' h1 h2 hb t=>by
  have ih:=bF.filter p t
  simp only[List.filter_cons,←hb]
  split
  ·exact .cons a e _ _ h1 h2 hb ih
  ·exact ih
theorem bF.all (p:Nat→Bool):∀ {es:List (Value×Value×Nat)} {aU:List MapEntry},bF Γ es aU→(aU.all fun e=>p e.born)=es.all fun e=>p e.2.2
 | _,_,.nil=>rfl
 | _,_,.cons a e l l' h1 h2 hb t=>by
  simp only[List.all_cons,←hb,bF.all p t]
theorem bF.find (p:Nat→Bool):∀ {es:List (Value×Value×Nat)} {aU:List MapEntry},bF Γ es aU→∀ a,(es.find? fun e=>p e.2.2)=some a→
  ∃ e,(aU.find? fun e=>p e.born)=some e∧aA Γ a.1 e.key∧aA Γ a.2.1 e.val
 | _,_,.nil,a,h=>by simp at h
 | _,_,.cons a e l l' h1 h2 hb t,x,h=>by
  simp only[List.find?_cons,←hb] at h ⊢
  split at h
  ·obtain rfl:=Option.some.inj h
   exact⟨e,by simp_all,h1,h2⟩
  ·obtain⟨e',he,hr⟩:=bF.find p t x h
   exact⟨e',by simp_all,hr⟩
theorem su (a b:Nat):Nat.beq a b=(a==b):=by
 rw[Bool.eq_iff_iff]
 constructor
 ·intro h;rw[Nat.eq_of_beq_eq_true h];simp
 ·intro h;rw[eq_of_beq h];exact Nat.beq_refl _
theorem Ac (a b:Nat):Nat.ble a b=decide (a≤b):=by
 rw[Bool.eq_iff_iff];simp[Nat.ble_eq]
theorem Ad (a b:Nat):Nat.blt a b=decide (a<b):=by
 rw[Bool.eq_iff_iff];simp[Nat.blt_eq]
theorem any_beq (l:List Nat) (b:Nat):l.any (Nat.beq b)=(⟨l⟩:Array Nat).contains b:=by
 rw[Bool.eq_iff_iff,List.any_eq_true]
 simp only[List.contains_toArray,List.contains_iff_mem]
 constructor
 ·rintro ⟨x,hx,hb⟩;rw[Nat.eq_of_beq_eq_true hb];exact hx
 ·intro hm;exact⟨b,hm,Nat.beq_refl b⟩
theorem CL {t:TypeId} {x x':Value} {isS:Bool} (hx:aA Γ x x'):fD P Γ (xq x isS) (Instr.next x' isS t) aA:=by
 intro W h n w hS
 unfold xq
 split
 ·rename_i a
  cases hx with
  |ptr _ a' ha=>
   cases hoff:Nat.beq a.off 0 with
   |false=>exact aj.fail
   |true=>
    have hoff:=beq_true hoff
    simp only[cond_true]
    refine aj.get fun B hB=>?_
    obtain⟨s,hblk,ho⟩:=ha.at_
    obtain⟨b,s0,e,Il,_⟩:=hS.live _ _ hB
    rw[hblk] at e
    obtain⟨rfl,rfl⟩:a'.block=b∧s=s0:=by simpa using e
    split
    ·obtain⟨rfl,m',h1,h2,_⟩:=Il
     obtain rfl:=h2 rfl
     have ha0:a'.off=0:=by omega
     refine aj.ok hS (b := .tuple #[.bool false]) ?_ (.tuple _ _ (.cons _ _ _ _ (.bool _) .nil))
     obtain⟨ab,ao,asp⟩:=a'
     simp only at ha0 h1
     subst ha0
     simp[Instr.next,getObj,Sem.run,h1]
    ·rename_i m since seen last _
     obtain⟨rfl,m',h1,_,h3⟩:=Il
     obtain⟨r',rfl,hr⟩:=h3 m rfl
     have ha0:a'.off=0:=by omega
     refine aj.get fun C hC=>?_
     split
     ·rename_i es clk
      obtain⟨b,s,e,⟨rfl,aU,g1,g2⟩,_⟩:=hS.live _ _ hC
      rw[hr] at e
      obtain⟨rfl,_⟩:r'=b∧0=0:=by simpa using e
      obtain⟨ab,ao,asp⟩:=a'
      simp only at ha0 h1
      subst ha0
      have I4:(getObj ab).run P w = .ok (.mapIter (some r') since ⟨seen⟩ last) w:=by simp[getObj,Sem.run,h1]
      have I5:(getObj r').run P w = .ok (.map aU clk) w:=by simp[getObj,Sem.run,g1]
      have hall:(aU.all fun e=>decide (e.born≥last))=es.all fun e=>Nat.ble last e.2.2:=by
       rw[←g2.all (fun b=>Nat.ble last b)]
       rw[←Array.all_toList]
       congr 1
       funext e
       exact(Ac _ _).symm
      have z7:aU.isEmpty=es.isEmpty:=by
       have:=g2.length
       rw[Bool.eq_iff_iff]
       simp only[Array.isEmpty_iff_size_eq_zero,List.isEmpty_iff_length_eq_zero]
       simp at this;omega
      cases hnew:(!seen.isEmpty && !es.isEmpty&&es.all (fun e=>Nat.ble last e.2.2)) with
      |true=>exact aj.fail
      |false=>
       simp only[cond_false]
       have LH:((!(⟨seen⟩:Array Nat).isEmpty && !aU.isEmpty&&aU.all fun e=>decide (e.born≥last)):Bool)=false:=by
        rw[hall,z7,←hnew];simp
       have xH:=g2.filter (fun b => !seen.any (Nat.beq b))
       have hleft:(aU.filter fun e => !(⟨seen⟩:Array Nat).contains e.born).toList=aU.toList.filter fun e => !seen.any (Nat.beq e.born):=by
        simp only[Array.toList_filter]
        congr 1
        funext e
        rw[any_beq]
       split
       ·rename_i hes
        rw[hes] at xH
        have xI:aU.filter (fun e => !(⟨seen⟩:Array Nat).contains e.born)=#[]:=by
         apply Array.ext'
         rw[hleft]
         cases hq:aU.toList.filter fun e => !seen.any (Nat.beq e.born) with
         |nil=>rfl
         |cons y ys=>rw[hq] at xH;cases xH
        refine aj.ok hS (b := .tuple #[.bool false]) ?_ (.tuple _ _ (.cons _ _ _ _ (.bool _) .nil))
        simp only[Instr.next,Sem.run_bind,I4,Result.andThen_ok,I5,LH,Bool.false_eq_true,if_false,xI]
        simp[Question.forced]
       ·rename_i en hes
        cases hlt:Nat.blt en.2.2 since with
        |false=>exact aj.fail
        |true=>
         have hlt:en.2.2<since:=Nat.blt_eq.mp hlt
         simp only[cond_true]
         rw[hes] at xH
         obtain⟨y,hy,hky,hvy,hby⟩:∃ y,aU.toList.filter (fun e => !seen.any (Nat.beq e.born))=[y]∧aA Γ en.1 y.key∧aA Γ en.2.1 y.val∧en.2.2=y.born:=by
          cases hq:aU.toList.filter fun e => !seen.any (Nat.beq e.born) with
          |nil=>rw[hq] at xH;cases xH
          |cons y ys=>
           rw[hq] at xH
           cases xH with
           |cons _ _ _ _ h1 h2 h3 ht=>cases ht;exact⟨y,rfl,h1,h2,h3⟩
         have hone:aU.filter (fun e => !(⟨seen⟩:Array Nat).contains e.born)=#[y]:=by
          apply Array.ext'
          rw[hleft,hy]
         have Se:Γ.blk a.block=some (ab,0):=hblk
         have iO:=hS.rP (B' := .iter (some m) since (seen++[en.2.2]) clk) (o := .mapIter (some r') since ⟨seen++[y.born]⟩ clk) hB Se trivial trivial
          (fun w' ⟨_,m',q,_⟩=>⟨_,q,rfl⟩) rfl (fun w' q=>⟨rfl,some r',by rw[hby];exact q,(fun e=>by cases e),(fun z e=>by cases e;exact⟨r',rfl,hr⟩)⟩)
         refine aj.set (e':=pure (.tuple #[.bool true,y.key,y.val])) ?_ (aj.ok iO rfl (.tuple _ _ (.cons _ _ _ _ (.bool _) (.cons _ _ _ _ hky (.cons _ _ _ _ hvy .nil)))))
         have zH:∀ o,(setObj ab o).run P w = .ok () { w with heap:=w.heap.setIfInBounds ab o }:=fun o=>by simp[setObj,Sem.run,h1]
         have vC:y.born<since:=by omega
         simp only[Instr.next,Sem.run_bind,I4,Result.andThen_ok,I5,LH,Bool.false_eq_true,if_false,hone]
         have f1:(#[y]:Array MapEntry).filter (fun e=>decide (e.born<since))=#[y]:=by simp[vC]
         have f2:(#[y]:Array MapEntry).filter (fun e=>decide (e.born≥since))=#[]:=by simp;omega
         rw[f1,f2]
         simp[Question.forced,zH]
       ·exact aj.fail
     ·exact aj.fail
    ·exact aj.fail
 ·exact aj.fail
theorem Ae {x x':Value} (hx:aA Γ x x'):fD P Γ (rJ x) (Instr.entry x') aA:=by
 intro W h n w hS
 unfold rJ
 split
 ·rename_i a
  cases hx with
  |ptr _ a' ha=>
   cases hoff:Nat.beq a.off 0 with
   |false=>exact aj.fail
   |true=>
    have hoff:=beq_true hoff
    simp only[cond_true]
    refine aj.get fun B hB=>?_
    obtain⟨s,hblk,ho⟩:=ha.at_
    obtain⟨b,s0,e,Il,_⟩:=hS.live _ _ hB
    rw[hblk] at e
    obtain⟨rfl,rfl⟩:a'.block=b∧s=s0:=by simpa using e
    split
    ·rename_i m since seen last _
     obtain⟨rfl,m',h1,_,h3⟩:=Il
     obtain⟨r',rfl,hr⟩:=h3 m rfl
     have ha0:a'.off=0:=by omega
     split
     ·rename_i stamp hst
      refine aj.get fun C hC=>?_
      split
      ·rename_i es clk
       obtain⟨b,s,e,⟨rfl,aU,g1,g2⟩,_⟩:=hS.live _ _ hC
       rw[hr] at e
       obtain⟨rfl,_⟩:r'=b∧0=0:=by simpa using e
       cases hc:Nat.beq clk last with
       |false=>exact aj.fail
       |true=>
        have hc:=beq_true hc
        subst hc
        simp only[cond_true]
        split
        ·rename_i en VA
         obtain⟨y,hy,hk,hv⟩:=g2.find (fun b=>Nat.beq b stamp) en VA
         refine aj.ok hS (b := .tuple #[y.key,y.val]) ?_ (.tuple _ _ (.cons _ _ _ _ hk (.cons _ _ _ _ hv .nil)))
         obtain⟨ab,ao,asp⟩:=a'
         simp only at ha0 h1
         subst ha0
         have I4:(getObj ab).run P w = .ok (.mapIter (some r') since ⟨seen⟩ clk) w:=by simp[getObj,Sem.run,h1]
         have I5:(getObj r').run P w = .ok (.map aU clk) w:=by simp[getObj,Sem.run,g1]
         have Sf:(⟨seen⟩:Array Nat).back? = some stamp:=by simpa using hst
         have hfind:aU.find? (fun e=>e.born==stamp)=some y:=by
          rw[←Array.find?_toList,←hy];congr 1;funext e;exact(su _ _).symm
         simp[Instr.entry,I4,I5,Sf,hfind]
        ·exact aj.fail
      ·exact aj.fail
     ·exact aj.fail
    ·exact aj.fail
 ·exact aj.fail
end
end Go.Am
set_option linter.unusedSimpArgs false
set_option linter.unusedVariables false
namespace Go.Am
open Go.RowKit
theorem Af:Extern.allNextRows.lookup ""=none:=by kernel_rfl
theorem CM:Extern.allNextRows.lookup "sync/atomic.LoadUint64"=none:=by kernel_rfl
theorem Ag:Extern.allNextRows.lookup "sync/atomic.StoreUint64"=none:=by kernel_rfl
theorem CN:Extern.allNextRows.lookup "sync/atomic.SwapUint64"=none:=by kernel_rfl
theorem EK:Extern.allNextRows.lookup "sync/atomic.CompareAndSwapUint64"=none:=by kernel_rfl
theorem EL:Extern.allNextRows.lookup "sync/atomic.AddUint64"=none:=by kernel_rfl
theorem EM:Extern.allGenericRows.lookup "sync/atomic.LoadUint64"=none:=by kernel_rfl
theorem CO:Extern.allGenericRows.lookup "sync/atomic.StoreUint64"=none:=by kernel_rfl
theorem EN:Extern.allGenericRows.lookup "sync/atomic.SwapUint64"=none:=by kernel_rfl
theorem I7:Extern.allGenericRows.lookup "sync/atomic.CompareAndSwapUint64"=none:=by kernel_rfl
theorem I8:Extern.allGenericRows.lookup "sync/atomic.AddUint64"=none:=by kernel_rfl
theorem Ah:Extern.allTypedRows.lookup "sync/atomic.LoadUint64"=none:=by kernel_rfl
theorem xJ:Extern.allTypedRows.lookup "sync/atomic.StoreUint64"=none:=by kernel_rfl
theorem Ai:Extern.allTypedRows.lookup "sync/atomic.SwapUint64"=none:=by kernel_rfl
theorem CP:Extern.allTypedRows.lookup "sync/atomic.CompareAndSwapUint64"=none:=by kernel_rfl
theorem CQ:Extern.allTypedRows.lookup "sync/atomic.AddUint64"=none:=by kernel_rfl
theorem EO:Extern.allRows.lookup "sync/atomic.LoadUint64"=some (Extern.Atomic.loadT (.int .u64)):=by kernel_rfl
theorem CS:Extern.allRows.lookup "sync/atomic.StoreUint64"=some Extern.Atomic.storeT:=by kernel_rfl
theorem EP:Extern.allRows.lookup "sync/atomic.SwapUint64"=some (Extern.Atomic.swapT (.int .u64)):=by kernel_rfl
theorem I9:Extern.allRows.lookup "sync/atomic.CompareAndSwapUint64"=some (Extern.Atomic.casT (.int .u64)):=by kernel_rfl
theorem I_:Extern.allRows.lookup "sync/atomic.AddUint64"=some (Extern.Atomic.update (Op.intArith .add) .u64 true):=by kernel_rfl
def dZ:Atomic→Array Value→Sem Value
 | .load=>Extern.Atomic.loadT (.int .u64)
 | .store=>Extern.Atomic.storeT
 | .swap=>Extern.Atomic.swapT (.int .u64)
 | .RX=>Extern.Atomic.casT (.int .u64)
 | .add=>Extern.Atomic.update (Op.intArith .add) .u64 true
open Extern.Atomic in
theorem ER (x:Value):dZ .load ⟨[x]⟩=(do read (.int .u64) (←asAddr x)):=rfl
open Extern.Atomic in
theorem CT (x v:Value):dZ .store ⟨[x,v]⟩=(do store (←asAddr x) v .atomic;pure none_):=rfl
open Extern.Atomic in
theorem ES (x v:Value):dZ .swap ⟨[x,v]⟩=(do let a ←asAddr x;let old ←read (.int .u64) a;store a v .atomic;pure old):=rfl
open Extern.Atomic in
theorem Ja (x v:Value):dZ .add ⟨[x,v]⟩=(do let a ←asAddr x;let old ←read (.int .u64) a;let new ←Op.intArith .add .u64 (←asInt old) (←asInt v);store a new .atomic;pure new):=rfl
open Extern.Atomic in
theorem BP (x o v:Value):dZ .RX ⟨[x,o,v]⟩=(do
  let a ←asAddr x
  if ←touchesFrozen a then unsupported (.unsafePointer "a write to bytes that a string shares")
  let eq ←match T.int .u64,←read (.int .u64) a,o with
   | _,.int _ x,.int _ y=>pure (x==y)
   | .ptr,.pointer x,.pointer y=>samePointer x y
   | .int _,.pointer (some _),.int _ 0 | .int _,.int _ 0,.pointer (some _)=>pure false
   | .int _,.pointer (some _),_ | .int _,_,.pointer (some _)=>unsupported .addressObserved
   | _,_,_=>stuck "atomic.CompareAndSwap: old is no T"
  if eq then store a v .atomic
  pure (.bool eq)):=rfl
section
variable {P:Program} {Γ:br} {W w:World} {h:PT ak} {n:Nat}
theorem qp (k:Atomic):Extern.allNextRows.lookup (eA k)=none:=by
 cases k
 ·exact CM
 ·exact Ag
 ·exact CN
 ·exact EK
 ·exact EL
theorem xK (k:Atomic):Extern.allGenericRows.lookup (eA k)=none∧Extern.allTypedRows.lookup (eA k)=none∧Extern.allRows.lookup (eA k)=some (dZ k):=by
 cases k
 ·exact⟨EM,Ah,EO⟩
 ·exact⟨CO,xJ,CS⟩
 ·exact⟨EN,Ai,EP⟩
 ·exact⟨I7,CP,I9⟩
 ·exact⟨I8,CQ,I_⟩
theorem Aj {f:FuncId} {fn:Func} {k:Atomic} (hf:P.funcs[f]? = some fn) (hb:fn.body.isSome=false) (hn:fn.name=eA k) (ho:fn.origin=eA k∨fn.origin = "") (args:Array Value) (w:World):
  (callFunc f args).run P w=((dZ k args).run P w).andThen fun v w' => .ok (.value v) w':=by
 have sv:(fn.name == "runtime.NumGoroutine")=false:=by rw[hn];cases k<;>decide
 have hb':fn.body.isNone=true:=by cases Ij:fn.body with |none=>rfl |some c=>rw[Ij] at hb;simp at hb
 have hfn:Extern.findNext fn=none:=by
  unfold Extern.findNext
  rw[hn]
  simp only[qp k,Option.map_none]
  rcases ho with ho |ho
  ·rw[ho];simp[qp k]
  ·rw[ho];simp[Af]
 obtain⟨h1,h2,h3⟩:=xK k
 have hfd:Extern.find fn=some (dZ k):=by
  unfold Extern.find
  rw[hn]
  simp only[h1,h2,h3,Option.map_none]
  simp
 unfold callFunc
 simp only[Sem.run_bind,run_program,Result.andThen_ok,hf,sv,Bool.false_eq_true,if_false,hb',if_true,run_mark,hfn,hfd,Sem.run_pure]
theorem xL (k:Atomic) {args args':List Value} (ha:aF Γ args args'):fD P Γ (vu k args) (dZ k ⟨args'⟩) aA:=by
 intro W h n w hS
 have LI:∀ (c:PT Value) (a:Addr) (m:Int),eX c a=some m→c.get a.off=some (.int .u64 m):=by
  intro c a m hw
  unfold eX at hw
  split at hw
  ·rename_i hc;obtain rfl:=Option.some.inj hw;exact hc
  ·simp at hw
 have hcell:∀ {a a':Addr} {c:PT Value} {ro:Bool} {m:Int},Γ.addr a a'→h.get a.block=some (.cells c ro)→eX c a=some m→w.cell? a'=some (.int .u64 m):=by
  intro a a' c ro m lH hb hw
  obtain⟨v',e,r⟩:=hS.Ey hb (LI _ _ _ hw) lH rfl
  cases r;exact e
 have xN:∀ {a a':Addr} {c:PT Value},Γ.addr a a'→h.get a.block=some (.cells c false)→w.frozen? a'=false:=by
  intro a a' c lH hb
  have:=hS.frozen hb lH rfl 0
  simpa [Addr.add] using this
 have jO:∀ {a a':Addr} {c:PT Value} {m:Int} (v:Int),Γ.addr a a'→h.get a.block=some (.cells c false)→eX c a=some m→
   bh Γ W (h.set a.block (some (.cells (c.set a.off (some (.int .u64 v))) false))) (w.setCell a' (.int .u64 v)):=by
  intro a a' c m v lH hb hw
  exact hS.setCell hb lH rfl (.int _ _) (by rw[LI _ _ _ hw];rfl)
 have sx:∀ {a a':Addr} {c:PT Value},Γ.addr a a'→h.get a.block=some (.cells c false)→(w.shape? a'.block).isSome=true:=by
  intro a a' c lH hb
  obtain⟨_,_,_,⟨cs,el,fz,h1,_,_⟩,_⟩:=hS.block hb lH rfl
  simp[World.shape?,h1]
 unfold vu
 split
 ·rename_i a
  cases ha with
  |cons _ _ _ _ hp ht=>
   cases ht
   cases hp with
   |ptr _ a' lH=>
    refine aj.get fun B hB=>?_
    split
    ·rename_i c ro
     split
     ·rename_i m hm
      refine aj.ok hS (b := .int .u64 m) ?_ (.int _ _)
      simp[ER,Extern.Atomic.read,asAddr,hcell lH hB hm]
     ·exact aj.fail
    ·exact aj.fail
 ·rename_i a v
  cases ha with
  |cons _ _ _ _ hp ht=>
   cases ht with
   |cons _ _ _ _ hv ht=>
    cases ht;cases hv
    cases hp with
    |ptr _ a' lH=>
     refine aj.get fun B hB=>?_
     split
     ·rename_i c
      split
      ·rename_i m hm
       refine aj.set (e':=pure (.tuple #[])) ?_ (aj.ok (jO v lH hB hm) rfl (.tuple _ _ .nil))
       simp[CT,asAddr,run_store P w a' (.int .u64 v) .atomic rfl,hcell lH hB hm,xN lH hB,Extern.Atomic.none_]
      ·exact aj.fail
     ·exact aj.fail
 ·rename_i a v
  cases ha with
  |cons _ _ _ _ hp ht=>
   cases ht with
   |cons _ _ _ _ hv ht=>
    cases ht;cases hv
    cases hp with
    |ptr _ a' lH=>
     refine aj.get fun B hB=>?_
     split
     ·rename_i c
      split
      ·rename_i m hm
       refine aj.set (e':=pure (.int .u64 m)) ?_ (aj.ok (jO v lH hB hm) rfl (.int _ _))
       simp[ES,Extern.Atomic.read,asAddr,run_store P w a' (.int .u64 v) .atomic rfl,hcell lH hB hm,xN lH hB]
      ·exact aj.fail
     ·exact aj.fail
 ·rename_i a o v
  cases ha with
  |cons _ _ _ _ hp ht=>
   cases ht with
   |cons _ _ _ _ ho ht=>
    cases ht with
    |cons _ _ _ _ hv ht=>
     cases ht;cases hv;cases ho
     cases hp with
     |ptr _ a' lH=>
      refine aj.get fun B hB=>?_
      split
      ·rename_i c
       split
       ·rename_i m hm
        have htf:∀ w',w'=w→(Extern.Atomic.touchesFrozen a').run P w' = .ok false w:=by
         rintro w' rfl
         simp[Extern.Atomic.touchesFrozen,viewAt,sx lH hB,xN lH hB]
        cases heq:m==o with
        |true=>
         have heq:m=o:=by simpa using heq
         refine aj.set (e':=pure (.bool true)) ?_ (aj.ok (jO v lH hB hm) rfl (.bool _))
         simp[BP,Extern.Atomic.read,asAddr,htf w rfl,hcell lH hB hm,heq,run_store P w a' (.int .u64 v) .atomic rfl,xN lH hB]
        |false=>
         have heq: ¬ m=o:=by simpa using heq
         refine aj.ok hS (b := .bool false) ?_ (.bool _)
         simp[BP,Extern.Atomic.read,asAddr,htf w rfl,hcell lH hB hm,heq]
       ·exact aj.fail
      ·exact aj.fail
 ·rename_i a v
  cases ha with
  |cons _ _ _ _ hp ht=>
   cases ht with
   |cons _ _ _ _ hv ht=>
    cases ht;cases hv
    cases hp with
    |ptr _ a' lH=>
     refine aj.get fun B hB=>?_
     split
     ·rename_i c
      split
      ·rename_i m hm
       refine aj.set (e':=pure (.int .u64 (IntKind.u64.wrap (m+v)))) ?_ (aj.ok (jO _ lH hB hm) rfl (.int _ _))
       simp[Ja,Extern.Atomic.read,asAddr,asInt,asIntOf,Op.intArith,run_store P w a' (.int .u64 (IntKind.u64.wrap (m+v))) .atomic rfl,hcell lH hB hm,xN lH hB]
      ·exact aj.fail
     ·exact aj.fail
 ·exact aj.fail
theorem uj (z:Array Value) (k:Nat) (hz:0<z.size):Builtin.zeroCells z k=⟨rep z.toList k⟩:=mL z k hz
theorem Ak {ts:Array TypeId} {ty:TypeId} {args args':List Value} (ha:aF Γ args args'):fD P Γ (zN P ts.toList args) (Builtin.clear_ ts ty ⟨args'⟩) aA:=by
 intro W h n w hS
 unfold zN
 split
 ·rename_i t tr k c rest hts
  obtain⟨tl⟩:=ts
  obtain rfl:tl=t::tr:=hts
  cases ha with
  |cons _ _ _ _ hx ha=>
   cases hx
   split
   ·rename_i d hd
    exact aj.ok hS (b := .tuple #[]) (by simp[Builtin.clear_,az hd]) (.tuple _ _ .nil)
   ·exact aj.fail
 ·rename_i t tr a k c rest hts
  obtain⟨tl⟩:=ts
  obtain rfl:tl=t::tr:=hts
  cases ha with
  |cons _ _ _ _ hx ha=>
   cases hx with
   |slice _ a' _ _ c' ha0 hc=>
    split
    ·rename_i e hd
     cases hk:Nat.beq k 0 with
     |true=>
      have hk:=beq_true hk
      subst hk
      exact aj.ok hS (b := .tuple #[]) (by simp[Builtin.clear_,az hd]) (.tuple _ _ .nil)
     |false=>
      have hk:k≠0:=fun e=>by rw[e] at hk;exact Bool.noConfusion hk
      have lH:=ha0.exact (.inl (by omega))
      simp only[cond_false]
      split
      ·rename_i i z hi hz
       obtain⟨xl,xB⟩:=cM hz
       cases hpos:Nat.blt 0 z.cells.toList.length with
       |false=>exact aj.fail
       |true=>
        have hpos:0<z.cells.toList.length:=Nat.blt_eq.mp hpos
        simp only[cond_true]
        refine aj.get fun B hB=>?_
        split
        ·rename_i cc
         split
         ·rename_i c2 Jb
          obtain⟨w',hr,iO⟩:=eL (P:=P) (i:=a.block) (a:=a) (a':=a') rfl _ _ cc c2 0 h w lH hS hB ((xB Γ).cells.rep k) (by simpa using Jb)
          refine aj.set (w':=w') (e':=pure (.tuple #[])) ?_ (aj.ok iO rfl (.tuple _ _ .nil))
          have hzc:=uj z.cells k (by simpa using hpos)
          simp[Builtin.clear_,az hd,hk,xl,hzc,hr]
         ·exact aj.fail
        ·exact aj.fail
      ·exact aj.fail
    ·exact aj.fail
 ·exact aj.fail
end
end Go.Am
