/-
  A part of the proof: contracts of inner functions.
-/
import Derived.Test.YtbceiadaihphaaaGreatAmM
import Derived.KernelRfl
set_option linter.unusedSimpArgs false
set_option linter.unusedVariables false
namespace Go.Am
open Go.RowKit
section
variable {P:Program} {Γ:bu} {W w:World} {h:PT aj} {n:Nat}
theorem yf {t:TypeId} {x x':Value} (hx:aF Γ x x'):fK P Γ (xQ P t x) (Instr.range t x') aF:=by
 intro W h n w hS
 unfold xQ
 split
 ·rename_i k e hd
  cases hx
  refine ak.new fun hn=>?_
  obtain⟨aS,hst,hb,kR⟩:=hS.gG hn (.mapIter none 0 #[] 0) (.iter none 0 [] 0) rfl (fun aS w' _ h1=>⟨rfl,none,h1,fun _=>rfl,fun r e=>by cases e⟩)
  refine⟨aS,_,pure (.pointer (some ⟨w.heap.size,0,none⟩)),hst,?_,ak.ok kR rfl (.ptr _ _ ⟨rfl,rfl,0,hb,rfl⟩)⟩
  simp[Instr.range,aD hd]
 ·rename_i k e r hd
  cases hx with
  |map _ r' hr=>
   refine ak.get fun B hB=>?_
   split
   ·rename_i es clk
    obtain⟨b,s,e,⟨rfl,bh,h1,h2⟩,_⟩:=hS.live _ _ hB
    rw[hr] at e
    obtain⟨rfl,_⟩:r'=b∧0=0:=by simpa using e
    refine ak.new fun hn=>?_
    obtain⟨aS,hst,hb,kR⟩:=hS.gG hn (.mapIter (some r') clk #[] clk) (.iter (some r) clk [] clk) rfl
     (fun aS w' hle h1=>⟨rfl,some r',h1,(fun e=>by cases e),(fun q e=>by cases e;exact⟨r',rfl,hle.bW _ _ hr⟩)⟩)
    refine⟨aS,_,pure (.pointer (some ⟨w.heap.size,0,none⟩)),hst,?_,ak.ok kR rfl (.ptr _ _ ⟨rfl,rfl,0,hb,rfl⟩)⟩
    have sR:(getObj r').run P w = .ok (.map bh clk) w:=by simp[getObj,Sem.run,h1]
    simp[Instr.range,aD hd,sR]
   ·exact ak.fail
 ·exact ak.fail
theorem bL.filter (p:Nat→Bool):∀ {es:List (Value×Value×Nat)} {bh:List MapEntry},bL Γ es bh→bL Γ (es.filter fun e=>p e.2.2) (bh.filter fun e=>p e.born)
 | _,_,.nil => .nil
 | _,_,.cons a e l l' h1 h2 hb t=>by
  have ih:=bL.filter p t
  simp only[List.filter_cons,←hb]
  split
  ·exact .cons a e _ _ h1 h2 hb ih
  ·exact ih
theorem bL.all (p:Nat→Bool):∀ {es:List (Value×Value×Nat)} {bh:List MapEntry},bL Γ es bh→(bh.all fun e=>p e.born)=es.all fun e=>p e.2.2
 | _,_,.nil=>rfl
 | _,_,.cons a e l l' h1 h2 hb t=>by
  simp only[List.all_cons,←hb,bL.all p t]
theorem bL.find (p:Nat→Bool):∀ {es:List (Value×Value×Nat)} {bh:List MapEntry},bL Γ es bh→∀ a,(es.find? fun e=>p e.2.2)=some a→
  ∃ e,(bh.find? fun e=>p e.born)=some e∧aF Γ a.1 e.key∧aF Γ a.2.1 e.val
 | _,_,.nil,a,h=>by simp at h
 | _,_,.cons a e l l' h1 h2 hb t,x,h=>by
  simp only[List.find?_cons,←hb] at h ⊢
  split at h
  ·obtain rfl:=Option.some.inj h
   exact⟨e,by simp_all,h1,h2⟩
  ·obtain⟨e',he,hr⟩:=bL.find p t x h
   exact⟨e',by simp_all,hr⟩
theorem yg (a b:Nat):Nat.beq a b=(a==b):=by
 rw[Bool.eq_iff_iff]
 constructor
 ·intro h;rw[Nat.eq_of_beq_eq_true h];simp
 ·intro h;rw[eq_of_beq h];exact Nat.beq_refl _
theorem yh (a b:Nat):Nat.ble a b=decide (a≤b):=by
 rw[Bool.eq_iff_iff];simp[Nat.ble_eq]
theorem any_beq (l:List Nat) (b:Nat):l.any (Nat.beq b)=(⟨l⟩:Array Nat).contains b:=by
 rw[Bool.eq_iff_iff,List.any_eq_true]
 simp only[List.contains_toArray,List.contains_iff_mem]
 constructor
 ·rintro ⟨x,hx,hb⟩;rw[Nat.eq_of_beq_eq_true hb];exact hx
 ·intro hm;exact⟨b,hm,Nat.beq_refl b⟩
theorem AQ {t:TypeId} {x x':Value} {isS:Bool} (hx:aF Γ x x'):fK P Γ (CW x isS) (Instr.next x' isS t) aF:=by
 intro W h n w hS
 unfold CW
 split
 ·rename_i a
  cases hx with
  |ptr _ a' ha=>
   cases hoff:Nat.beq a.off 0 with
   |false=>exact ak.fail
   |true=>
    have hoff:=beq_true hoff
    simp only[cond_true]
    refine ak.get fun B hB=>?_
    obtain⟨s,nF,ho⟩:=ha.at_
    obtain⟨b,s0,e,Jm,_⟩:=hS.live _ _ hB
    rw[nF] at e
    obtain⟨rfl,rfl⟩:a'.block=b∧s=s0:=by simpa using e
    split
    ·obtain⟨rfl,m',h1,h2,_⟩:=Jm
     obtain rfl:=h2 rfl
     have ha0:a'.off=0:=by omega
     refine ak.ok hS (b := .tuple #[.bool false]) ?_ (.tuple _ _ (.cons _ _ _ _ (.bool _) .nil))
     obtain⟨ab,ao,Pt⟩:=a'
     simp only at ha0 h1
     subst ha0
     simp[Instr.next,getObj,Sem.run,h1]
    ·rename_i m since seen last _
     obtain⟨rfl,m',h1,_,h3⟩:=Jm
     obtain⟨r',rfl,hr⟩:=h3 m rfl
     have ha0:a'.off=0:=by omega
     refine ak.get fun C hC=>?_
     split
     ·rename_i es clk
      obtain⟨b,s,e,⟨rfl,bh,g1,g2⟩,_⟩:=hS.live _ _ hC
      rw[hr] at e
      obtain⟨rfl,_⟩:r'=b∧0=0:=by simpa using e
      obtain⟨ab,ao,Pt⟩:=a'
      simp only at ha0 h1
      subst ha0
      have Gw:(getObj ab).run P w = .ok (.mapIter (some r') since ⟨seen⟩ last) w:=by simp[getObj,Sem.run,h1]
      have Gx:(getObj r').run P w = .ok (.map bh clk) w:=by simp[getObj,Sem.run,g1]
      have hall:(bh.all fun e=>decide (e.born≥last))=es.all fun e=>Nat.ble last e.2.2:=by
       rw[←g2.all (fun b=>Nat.ble last b)]
       rw[←Array.all_toList]
       congr 1
       funext e
       exact(yh _ _).symm
      have KD:bh.isEmpty=es.isEmpty:=by
       have:=g2.length
       rw[Bool.eq_iff_iff]
       simp only[Array.isEmpty_iff_size_eq_zero,List.isEmpty_iff_length_eq_zero]
       simp at this;omega
      cases hnew:(!seen.isEmpty && !es.isEmpty&&es.all (fun e=>Nat.ble last e.2.2)) with
      |true=>exact ak.fail
      |false=>
       simp only[cond_false]
       have Jt:((!(⟨seen⟩:Array Nat).isEmpty && !bh.isEmpty&&bh.all fun e=>decide (e.born≥last)):Bool)=false:=by
        rw[hall,KD,←hnew];simp
       have vL:=g2.filter (fun b => !seen.any (Nat.beq b))
       have hleft:(bh.filter fun e => !(⟨seen⟩:Array Nat).contains e.born).toList=bh.toList.filter fun e => !seen.any (Nat.beq e.born):=by
        simp only[Array.toList_filter]
        congr 1
        funext e
        rw[any_beq]
       split
       ·rename_i WH
        rw[WH] at vL
        have WJ:bh.filter (fun e => !(⟨seen⟩:Array Nat).contains e.born)=#[]:=by
         apply Array.ext'
         rw[hleft]
         cases hq:bh.toList.filter fun e => !seen.any (Nat.beq e.born) with
         |nil=>rfl
         |cons y ys=>rw[hq] at vL;cases vL
        refine ak.ok hS (b := .tuple #[.bool false]) ?_ (.tuple _ _ (.cons _ _ _ _ (.bool _) .nil))
        simp only[Instr.next,Sem.run_bind,Gw,Result.andThen_ok,Gx,Jt,Bool.false_eq_true,if_false,WJ]
        simp[Question.forced]
       ·rename_i en WH
        cases hlt:Nat.blt en.2.2 since with
        |false=>exact ak.fail
        |true=>
         have hlt:en.2.2<since:=Nat.blt_eq.mp hlt
         simp only[cond_true]
         rw[WH] at vL
         obtain⟨y,hy,hky,Ww,hby⟩:∃ y,bh.toList.filter (fun e => !seen.any (Nat.beq e.born))=[y]∧aF Γ en.1 y.key∧aF Γ en.2.1 y.val∧en.2.2=y.born:=by
          cases hq:bh.toList.filter fun e => !seen.any (Nat.beq e.born) with
          |nil=>rw[hq] at vL;cases vL
          |cons y ys=>
           rw[hq] at vL
           cases vL with
           |cons _ _ _ _ h1 h2 h3 ht=>cases ht;exact⟨y,rfl,h1,h2,h3⟩
         have hone:bh.filter (fun e => !(⟨seen⟩:Array Nat).contains e.born)=#[y]:=by
          apply Array.ext'
          rw[hleft,hy]
         have Pu:Γ.bW a.block=some (ab,0):=nF
         have kR:=hS.rj (B' := .iter (some m) since (seen++[en.2.2]) clk) (o := .mapIter (some r') since ⟨seen++[y.born]⟩ clk) hB Pu trivial trivial
          (fun w' ⟨_,m',q,_⟩=>⟨_,q,rfl⟩) rfl (fun w' q=>⟨rfl,some r',by rw[hby];exact q,(fun e=>by cases e),(fun z e=>by cases e;exact⟨r',rfl,hr⟩)⟩)
         refine ak.set (e':=pure (.tuple #[.bool true,y.key,y.val])) ?_ (ak.ok kR rfl (.tuple _ _ (.cons _ _ _ _ (.bool _) (.cons _ _ _ _ hky (.cons _ _ _ _ Ww .nil)))))
         have AL:∀ o,(setObj ab o).run P w = .ok () { w with heap:=w.heap.setIfInBounds ab o }:=fun o=>by simp[setObj,Sem.run,h1]
         have FY:y.born<since:=by omega
         simp only[Instr.next,Sem.run_bind,Gw,Result.andThen_ok,Gx,Jt,Bool.false_eq_true,if_false,hone]
         have f1:(#[y]:Array MapEntry).filter (fun e=>decide (e.born<since))=#[y]:=by simp[FY]
         have f2:(#[y]:Array MapEntry).filter (fun e=>decide (e.born≥since))=#[]:=by simp;omega
         rw[f1,f2]
         simp[Question.forced,AL]
       ·exact ak.fail
     ·exact ak.fail
    ·exact ak.fail
 ·exact ak.fail
theorem yj {x x':Value} (hx:aF Γ x x'):fK P Γ (xR x) (Instr.entry x') aF:=by
 intro W h n w hS
 unfold xR
 split
 ·rename_i a
  cases hx with
  |ptr _ a' ha=>
   cases hoff:Nat.beq a.off 0 with
   |false=>exact ak.fail
   |true=>
    have hoff:=beq_true hoff
    simp only[cond_true]
    refine ak.get fun B hB=>?_
    obtain⟨s,nF,ho⟩:=ha.at_
    obtain⟨b,s0,e,Jm,_⟩:=hS.live _ _ hB
    rw[nF] at e
    obtain⟨rfl,rfl⟩:a'.block=b∧s=s0:=by simpa using e
    split
    ·rename_i m since seen last _
     obtain⟨rfl,m',h1,_,h3⟩:=Jm
     obtain⟨r',rfl,hr⟩:=h3 m rfl
     have ha0:a'.off=0:=by omega
     split
     ·rename_i stamp hst
      refine ak.get fun C hC=>?_
      split
      ·rename_i es clk
       obtain⟨b,s,e,⟨rfl,bh,g1,g2⟩,_⟩:=hS.live _ _ hC
       rw[hr] at e
       obtain⟨rfl,_⟩:r'=b∧0=0:=by simpa using e
       cases hc:Nat.beq clk last with
       |false=>exact ak.fail
       |true=>
        have hc:=beq_true hc
        subst hc
        simp only[cond_true]
        split
        ·rename_i en hen
         obtain⟨y,hy,hk,hv⟩:=g2.find (fun b=>Nat.beq b stamp) en hen
         refine ak.ok hS (b := .tuple #[y.key,y.val]) ?_ (.tuple _ _ (.cons _ _ _ _ hk (.cons _ _ _ _ hv .nil)))
         obtain⟨ab,ao,Pt⟩:=a'
         simp only at ha0 h1
         subst ha0
         have Gw:(getObj ab).run P w = .ok (.mapIter (some r') since ⟨seen⟩ clk) w:=by simp[getObj,Sem.run,h1]
         have Gx:(getObj r').run P w = .ok (.map bh clk) w:=by simp[getObj,Sem.run,g1]
         have Pv:(⟨seen⟩:Array Nat).back? = some stamp:=by simpa using hst
         have hfind:bh.find? (fun e=>e.born==stamp)=some y:=by
          rw[←Array.find?_toList,←hy];congr 1;funext e;exact(yg _ _).symm
         simp[Instr.entry,Gw,Gx,Pv,hfind]
        ·exact ak.fail
      ·exact ak.fail
     ·exact ak.fail
    ·exact ak.fail
 ·exact ak.fail
end
end Go.Am
namespace Go.Am
open Go.RowKit
theorem ym:Extern.allNextRows.lookup ""=none:=by kernel_rfl
theorem AU:Extern.allNextRows.lookup "sync/atomic.LoadUint64"=none:=by kernel_rfl
theorem yp:Extern.allNextRows.lookup "sync/atomic.StoreUint64"=none:=by kernel_rfl
theorem AV:Extern.allNextRows.lookup "sync/atomic.SwapUint64"=none:=by kernel_rfl
theorem Dh:Extern.allNextRows.lookup "sync/atomic.CompareAndSwapUint64"=none:=by kernel_rfl
theorem Di:Extern.allNextRows.lookup "sync/atomic.AddUint64"=none:=by kernel_rfl
theorem Dj:Extern.allGenericRows.lookup "sync/atomic.LoadUint64"=none:=by kernel_rfl
theorem AW:Extern.allGenericRows.lookup "sync/atomic.StoreUint64"=none:=by kernel_rfl
theorem Dk:Extern.allGenericRows.lookup "sync/atomic.SwapUint64"=none:=by kernel_rfl
theorem Gy:Extern.allGenericRows.lookup "sync/atomic.CompareAndSwapUint64"=none:=by kernel_rfl
theorem Gz:Extern.allGenericRows.lookup "sync/atomic.AddUint64"=none:=by kernel_rfl
theorem yq:Extern.allTypedRows.lookup "sync/atomic.LoadUint64"=none:=by kernel_rfl
theorem vM:Extern.allTypedRows.lookup "sync/atomic.StoreUint64"=none:=by kernel_rfl
theorem yt:Extern.allTypedRows.lookup "sync/atomic.SwapUint64"=none:=by kernel_rfl
theorem AX:Extern.allTypedRows.lookup "sync/atomic.CompareAndSwapUint64"=none:=by kernel_rfl
theorem AY:Extern.allTypedRows.lookup "sync/atomic.AddUint64"=none:=by kernel_rfl
theorem Dl:Extern.allRows.lookup "sync/atomic.LoadUint64"=some (Extern.Atomic.loadT (.int .u64)):=by kernel_rfl
theorem AZ:Extern.allRows.lookup "sync/atomic.StoreUint64"=some Extern.Atomic.storeT:=by kernel_rfl
theorem Dm:Extern.allRows.lookup "sync/atomic.SwapUint64"=some (Extern.Atomic.swapT (.int .u64)):=by kernel_rfl
theorem GD:Extern.allRows.lookup "sync/atomic.CompareAndSwapUint64"=some (Extern.Atomic.casT (.int .u64)):=by kernel_rfl
theorem GF:Extern.allRows.lookup "sync/atomic.AddUint64"=some (Extern.Atomic.update (Op.intArith .add) .u64 true):=by kernel_rfl
def eF:Atomic→Array Value→Sem Value
 | .load=>Extern.Atomic.loadT (.int .u64)
 | .store=>Extern.Atomic.storeT
 | .swap=>Extern.Atomic.swapT (.int .u64)
 | .O6=>Extern.Atomic.casT (.int .u64)
 | .add=>Extern.Atomic.update (Op.intArith .add) .u64 true
open Extern.Atomic in
theorem Dn (x:Value):eF .load ⟨[x]⟩=(do read (.int .u64) (←asAddr x)):=rfl
open Extern.Atomic in
theorem A0 (x v:Value):eF .store ⟨[x,v]⟩=(do store (←asAddr x) v .atomic;pure none_):=rfl
open Extern.Atomic in
theorem Dp (x v:Value):eF .swap ⟨[x,v]⟩=(do let a ←asAddr x;let old ←read (.int .u64) a;store a v .atomic;pure old):=rfl
open Extern.Atomic in
theorem GG (x v:Value):eF .add ⟨[x,v]⟩=(do let a ←asAddr x;let old ←read (.int .u64) a;let new ←Op.intArith .add .u64 (←asInt old) (←asInt v);store a new .atomic;pure new):=rfl
open Extern.Atomic in
theorem zX (x o v:Value):eF .O6 ⟨[x,o,v]⟩=(do
  let a ←asAddr x
  if ←touchesFrozen a then unsupported (.unsafePointer "a write to bytes that a string shares")
  let eq ←match T.int .u64,←read (.int .u64) a,o with
   | _,.int _ x,.int _ y=>pure (x==y)
   | .ptr,.pointer x,.pointer y=>samePointer x y
   | .int _,.pointer (some _),.int _ 0 | .int _,.int _ 0,.pointer (some _)=>pure false
   | .int _,.pointer (some _),_ | .int _,_,.pointer (some _)=>unsupported .addressObserved
   | _,_,_=>stuck "atomic.CompareAndSwap: old is no T"
  if eq then store a v .atomic
  pure (.bool eq)):=rfl
section
variable {P:Program} {Γ:bu} {W w:World} {h:PT aj} {n:Nat}
theorem qh (k:Atomic):Extern.allNextRows.lookup (eN k)=none:=by
 cases k
 ·exact AU
 ·exact yp
 ·exact AV
 ·exact Dh
 ·exact Di
theorem vN (k:Atomic):Extern.allGenericRows.lookup (eN k)=none∧Extern.allTypedRows.lookup (eN k)=none∧Extern.allRows.lookup (eN k)=some (eF k):=by
 cases k
 ·exact⟨Dj,yq,Dl⟩
 ·exact⟨AW,vM,AZ⟩
 ·exact⟨Dk,yt,Dm⟩
 ·exact⟨Gy,AX,GD⟩
 ·exact⟨Gz,AY,GF⟩
theorem yu {f:FuncId} {fn:Func} {k:Atomic} (hf:P.funcs[f]? = some fn) (hb:fn.body.isSome=false) (hn:fn.name=eN k) (ho:fn.origin=eN k∨fn.origin = "") (args:Array Value) (w:World):
  (callFunc f args).run P w=((eF k args).run P w).andThen fun v w' => .ok (.value v) w':=by
 have KG:(fn.name == "runtime.NumGoroutine")=false:=by rw[hn];cases k<;>decide
 have hb':fn.body.isNone=true:=by cases um:fn.body with |none=>rfl |some c=>rw[um] at hb;simp at hb
 have hfn:Extern.findNext fn=none:=by
  unfold Extern.findNext
  rw[hn]
  simp only[qh k,Option.map_none]
  rcases ho with ho |ho
  ·rw[ho];simp[qh k]
  ·rw[ho];simp[ym]
 obtain⟨h1,h2,h3⟩:=vN k
 have WK:Extern.find fn=some (eF k):=by
  unfold Extern.find
  rw[hn]
  simp only[h1,h2,h3,Option.map_none]
  simp
 unfold callFunc
 simp only[Sem.run_bind,run_program,Result.andThen_ok,hf,KG,Bool.false_eq_true,if_false,hb',if_true,run_mark,hfn,WK,Sem.run_pure]
theorem vO (k:Atomic) {args args':List Value} (ha:aH Γ args args'):fK P Γ (ug k args) (eF k ⟨args'⟩) aF:=by
 intro W h n w hS
 have Ju:∀ (c:PT Value) (a:Addr) (m:Int),fA c a=some m→c.get a.off=some (.int .u64 m):=by
  intro c a m hw
  unfold fA at hw
  split at hw
  ·rename_i hc;obtain rfl:=Option.some.inj hw;exact hc
  ·simp at hw
 have hcell:∀ {a a':Addr} {c:PT Value} {ro:Bool} {m:Int},Γ.addr a a'→h.get a.block=some (.cells c ro)→fA c a=some m→w.cell? a'=some (.int .u64 m):=by
  intro a a' c ro m lH hb hw
  obtain⟨v',e,r⟩:=hS.CX hb (Ju _ _ _ hw) lH rfl
  cases r;exact e
 have vP:∀ {a a':Addr} {c:PT Value},Γ.addr a a'→h.get a.block=some (.cells c false)→w.frozen? a'=false:=by
  intro a a' c lH hb
  have:=hS.frozen hb lH rfl 0
  simpa [Addr.add] using this
 have dr:∀ {a a':Addr} {c:PT Value} {m:Int} (v:Int),Γ.addr a a'→h.get a.block=some (.cells c false)→fA c a=some m→
   bq Γ W (h.set a.block (some (.cells (c.set a.off (some (.int .u64 v))) false))) (w.setCell a' (.int .u64 v)):=by
  intro a a' c m v lH hb hw
  exact hS.setCell hb lH rfl (.int _ _) (by rw[Ju _ _ _ hw];rfl)
 have kr:∀ {a a':Addr} {c:PT Value},Γ.addr a a'→h.get a.block=some (.cells c false)→(w.shape? a'.block).isSome=true:=by
  intro a a' c lH hb
  obtain⟨_,_,_,⟨cs,el,fz,h1,_,_⟩,_⟩:=hS.block hb lH rfl
  simp[World.shape?,h1]
 unfold ug
 split
 ·rename_i a
  cases ha with
  |cons _ _ _ _ hp ht=>
   cases ht
   cases hp with
   |ptr _ a' lH=>
    refine ak.get fun B hB=>?_
    split
    ·rename_i c ro
     split
     ·rename_i m hm
      refine ak.ok hS (b := .int .u64 m) ?_ (.int _ _)
      simp[Dn,Extern.Atomic.read,asAddr,hcell lH hB hm]
     ·exact ak.fail
    ·exact ak.fail
 ·rename_i a v
  cases ha with
  |cons _ _ _ _ hp ht=>
   cases ht with
   |cons _ _ _ _ hv ht=>
    cases ht;cases hv
    cases hp with
    |ptr _ a' lH=>
     refine ak.get fun B hB=>?_
     split
     ·rename_i c
      split
      ·rename_i m hm
       refine ak.set (e':=pure (.tuple #[])) ?_ (ak.ok (dr v lH hB hm) rfl (.tuple _ _ .nil))
       simp[A0,asAddr,run_store P w a' (.int .u64 v) .atomic rfl,hcell lH hB hm,vP lH hB,Extern.Atomic.none_]
      ·exact ak.fail
     ·exact ak.fail
 ·rename_i a v
  cases ha with
  |cons _ _ _ _ hp ht=>
   cases ht with
   |cons _ _ _ _ hv ht=>
    cases ht;cases hv
    cases hp with
    |ptr _ a' lH=>
     refine ak.get fun B hB=>?_
     split
     ·rename_i c
      split
      ·rename_i m hm
       refine ak.set (e':=pure (.int .u64 m)) ?_ (ak.ok (dr v lH hB hm) rfl (.int _ _))
       simp[Dp,Extern.Atomic.read,asAddr,run_store P w a' (.int .u64 v) .atomic rfl,hcell lH hB hm,vP lH hB]
      ·exact ak.fail
     ·exact ak.fail
 ·rename_i a o v
  cases ha with
  |cons _ _ _ _ hp ht=>
   cases ht with
   |cons _ _ _ _ ho ht=>
    cases ht with
    |cons _ _ _ _ hv ht=>
     cases ht;cases hv;cases ho
     cases hp with
     |ptr _ a' lH=>
      refine ak.get fun B hB=>?_
      split
      ·rename_i c
       split
       ·rename_i m hm
        have ZZ:∀ w',w'=w→(Extern.Atomic.touchesFrozen a').run P w' = .ok false w:=by
         rintro w' rfl
         simp[Extern.Atomic.touchesFrozen,viewAt,kr lH hB,vP lH hB]
        cases heq:m==o with
        |true=>
         have heq:m=o:=by simpa using heq
         refine ak.set (e':=pure (.bool true)) ?_ (ak.ok (dr v lH hB hm) rfl (.bool _))
         simp[zX,Extern.Atomic.read,asAddr,ZZ w rfl,hcell lH hB hm,heq,run_store P w a' (.int .u64 v) .atomic rfl,vP lH hB]
        |false=>
         have heq: ¬ m=o:=by simpa using heq
         refine ak.ok hS (b := .bool false) ?_ (.bool _)
         simp[zX,Extern.Atomic.read,asAddr,ZZ w rfl,hcell lH hB hm,heq]
       ·exact ak.fail
      ·exact ak.fail
 ·rename_i a v
  cases ha with
  |cons _ _ _ _ hp ht=>
   cases ht with
   |cons _ _ _ _ hv ht=>
    cases ht;cases hv
    cases hp with
    |ptr _ a' lH=>
     refine ak.get fun B hB=>?_
     split
     ·rename_i c
      split
      ·rename_i m hm
       refine ak.set (e':=pure (.int .u64 (IntKind.u64.wrap (m+v)))) ?_ (ak.ok (dr _ lH hB hm) rfl (.int _ _))
       simp[GG,Extern.Atomic.read,asAddr,asInt,asIntOf,Op.intArith,run_store P w a' (.int .u64 (IntKind.u64.wrap (m+v))) .atomic rfl,hcell lH hB hm,vP lH hB]
      ·exact ak.fail
     ·exact ak.fail
 ·exact ak.fail
theorem sX (z:Array Value) (k:Nat) (hz:0<z.size):Builtin.zeroCells z k=⟨rep z.toList k⟩:=mL z k hz
theorem yw {ts:Array TypeId} {ty:TypeId} {args args':List Value} (ha:aH Γ args args'):fK P Γ (xS P ts.toList args) (Builtin.clear_ ts ty ⟨args'⟩) aF:=by
 intro W h n w hS
 unfold xS
 split
 ·rename_i t tr k c rest hts
  obtain⟨tl⟩:=ts
  obtain rfl:tl=t::tr:=hts
  cases ha with
  |cons _ _ _ _ hx ha=>
   cases hx
   split
   ·rename_i d hd
    exact ak.ok hS (b := .tuple #[]) (by simp[Builtin.clear_,aD hd]) (.tuple _ _ .nil)
   ·exact ak.fail
 ·rename_i t tr a k c rest hts
  obtain⟨tl⟩:=ts
  obtain rfl:tl=t::tr:=hts
  cases ha with
  |cons _ _ _ _ hx ha=>
   cases hx with
   |slice _ a' _ _ c' ha0 hc=>
    split
    ·rename_i e hd
     cases hk:Nat.beq k 0 with
     |true=>
      have hk:=beq_true hk
      subst hk
      exact ak.ok hS (b := .tuple #[]) (by simp[Builtin.clear_,aD hd]) (.tuple _ _ .nil)
     |false=>
      have hk:k≠0:=fun e=>by rw[e] at hk;exact Bool.noConfusion hk
      have lH:=ha0.exact (.inl (by omega))
      simp only[cond_false]
      split
      ·rename_i i z hi hz
       obtain⟨vn,vB⟩:=cT hz
       cases hpos:Nat.blt 0 z.cells.toList.length with
       |false=>exact ak.fail
       |true=>
        have hpos:0<z.cells.toList.length:=Nat.blt_eq.mp hpos
        simp only[cond_true]
        refine ak.get fun B hB=>?_
        split
        ·rename_i cc
         split
         ·rename_i c2 FZ
          obtain⟨w',hr,kR⟩:=eT (P:=P) (i:=a.block) (a:=a) (a':=a') rfl _ _ cc c2 0 h w lH hS hB ((vB Γ).cells.rep k) (by simpa using FZ)
          refine ak.set (w':=w') (e':=pure (.tuple #[])) ?_ (ak.ok kR rfl (.tuple _ _ .nil))
          have hzc:=sX z.cells k (by simpa using hpos)
          simp[Builtin.clear_,aD hd,hk,vn,hzc,hr]
         ·exact ak.fail
        ·exact ak.fail
      ·exact ak.fail
    ·exact ak.fail
 ·exact ak.fail
end
end Go.Am
