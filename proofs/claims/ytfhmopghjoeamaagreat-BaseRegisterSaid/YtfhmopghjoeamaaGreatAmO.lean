/-
  A part of the proof: contracts of inner functions.
-/
import Derived.Test.YtfhmopghjoeamaaGreatAmM
import Derived.KernelRfl
set_option linter.unusedSimpArgs false
set_option linter.unusedVariables false
namespace Go.Am
open Go.RowKit
section
variable {P:Program} {Γ:aV} {W w:World} {h:PT aj} {n:Nat}
theorem wW {t:TypeId} {x x':Value} (hx:ay Γ x x'):dZ P Γ (wC P t x) (Instr.range t x') ay:=by
 intro W h n w hS
 unfold wC
 split
 ·rename_i k e hd
  cases hx
  refine ah.new fun hn=>?_
  obtain⟨aI,hst,hb,gj⟩:=hS.eZ hn (.mapIter none 0 #[] 0) (.iter none 0 [] 0) rfl (fun aI w' _ h1=>⟨rfl,none,h1,fun _=>rfl,fun r e=>by cases e⟩)
  refine⟨aI,_,pure (.pointer (some ⟨w.heap.size,0,none⟩)),hst,?_,ah.ok gj rfl (.ptr _ _ ⟨rfl,rfl,0,hb,rfl⟩)⟩
  simp[Instr.range,az hd]
 ·rename_i k e r hd
  cases hx with
  |map _ r' hr=>
   refine ah.get fun B hB=>?_
   split
   ·rename_i es clk
    obtain⟨b,s,e,⟨rfl,aK,h1,h2⟩,_⟩:=hS.live _ _ hB
    rw[hr] at e
    obtain⟨rfl,_⟩:r'=b∧0=0:=by simpa using e
    refine ah.new fun hn=>?_
    obtain⟨aI,hst,hb,gj⟩:=hS.eZ hn (.mapIter (some r') clk #[] clk) (.iter (some r) clk [] clk) rfl
     (fun aI w' hle h1=>⟨rfl,some r',h1,(fun e=>by cases e),(fun q e=>by cases e;exact⟨r',rfl,hle.blk _ _ hr⟩)⟩)
    refine⟨aI,_,pure (.pointer (some ⟨w.heap.size,0,none⟩)),hst,?_,ah.ok gj rfl (.ptr _ _ ⟨rfl,rfl,0,hb,rfl⟩)⟩
    have sX:(getObj r').run P w = .ok (.map aK clk) w:=by simp[getObj,Sem.run,h1]
    simp[Instr.range,az hd,sX]
   ·exact ah.fail
 ·exact ah.fail
theorem bz.filter (p:Nat→Bool):∀ {es:List (Value×Value×Nat)} {aK:List MapEntry},bz Γ es aK→bz Γ (es.filter fun e=>p e.2.2) (aK.filter fun e=>p e.born)
 | _,_,.nil => .nil
 | _,_,.cons a e l l' h1 h2 hb t=>by
  have ih:=bz.filter p t
  simp only[List.filter_cons,←hb]
  split
  ·exact .cons a e _ _ h1 h2 hb ih
  ·exact ih
theorem bz.all (p:Nat→Bool):∀ {es:List (Value×Value×Nat)} {aK:List MapEntry},bz Γ es aK→(aK.all fun e=>p e.born)=es.all fun e=>p e.2.2
 | _,_,.nil=>rfl
 | _,_,.cons a e l l' h1 h2 hb t=>by
  simp only[List.all_cons,←hb,bz.all p t]
theorem bz.find (p:Nat→Bool):∀ {es:List (Value×Value×Nat)} {aK:List MapEntry},bz Γ es aK→∀ a,(es.find? fun e=>p e.2.2)=some a→
  ∃ e,(aK.find? fun e=>p e.born)=some e∧ay Γ a.1 e.key∧ay Γ a.2.1 e.val
 | _,_,.nil,a,h=>by simp at h
 | _,_,.cons a e l l' h1 h2 hb t,x,h=>by
  simp only[List.find?_cons,←hb] at h ⊢
  split at h
  ·obtain rfl:=Option.some.inj h
   exact⟨e,by simp_all,h1,h2⟩
  ·obtain⟨e',he,hr⟩:=bz.find p t x h
   exact⟨e',by simp_all,hr⟩
theorem wX (a b:Nat):Nat.beq a b=(a==b):=by
 rw[Bool.eq_iff_iff]
 constructor
 ·intro h;rw[Nat.eq_of_beq_eq_true h];simp
 ·intro h;rw[eq_of_beq h];exact Nat.beq_refl _
theorem wY (a b:Nat):Nat.ble a b=decide (a≤b):=by
 rw[Bool.eq_iff_iff];simp[Nat.ble_eq]
theorem any_beq (l:List Nat) (b:Nat):l.any (Nat.beq b)=(⟨l⟩:Array Nat).contains b:=by
 rw[Bool.eq_iff_iff,List.any_eq_true]
 simp only[List.contains_toArray,List.contains_iff_mem]
 constructor
 ·rintro ⟨x,hx,hb⟩;rw[Nat.eq_of_beq_eq_true hb];exact hx
 ·intro hm;exact⟨b,hm,Nat.beq_refl b⟩
theorem zw {t:TypeId} {x x':Value} {isS:Bool} (hx:ay Γ x x'):dZ P Γ (Bc x isS) (Instr.next x' isS t) ay:=by
 intro W h n w hS
 unfold Bc
 split
 ·rename_i a
  cases hx with
  |ptr _ a' ha=>
   cases hoff:Nat.beq a.off 0 with
   |false=>exact ah.fail
   |true=>
    have hoff:=beq_true hoff
    simp only[cond_true]
    refine ah.get fun B hB=>?_
    obtain⟨s,hblk,ho⟩:=ha.at_
    obtain⟨b,s0,e,D4,_⟩:=hS.live _ _ hB
    rw[hblk] at e
    obtain⟨rfl,rfl⟩:a'.block=b∧s=s0:=by simpa using e
    split
    ·obtain⟨rfl,m',h1,h2,_⟩:=D4
     obtain rfl:=h2 rfl
     have ha0:a'.off=0:=by omega
     refine ah.ok hS (b := .tuple #[.bool false]) ?_ (.tuple _ _ (.cons _ _ _ _ (.bool _) .nil))
     obtain⟨ab,ao,TL⟩:=a'
     simp only at ha0 h1
     subst ha0
     simp[Instr.next,getObj,Sem.run,h1]
    ·rename_i m since seen last _
     obtain⟨rfl,m',h1,_,h3⟩:=D4
     obtain⟨r',rfl,hr⟩:=h3 m rfl
     have ha0:a'.off=0:=by omega
     refine ah.get fun C hC=>?_
     split
     ·rename_i es clk
      obtain⟨b,s,e,⟨rfl,aK,g1,g2⟩,_⟩:=hS.live _ _ hC
      rw[hr] at e
      obtain⟨rfl,_⟩:r'=b∧0=0:=by simpa using e
      obtain⟨ab,ao,TL⟩:=a'
      simp only at ha0 h1
      subst ha0
      have EC:(getObj ab).run P w = .ok (.mapIter (some r') since ⟨seen⟩ last) w:=by simp[getObj,Sem.run,h1]
      have ED:(getObj r').run P w = .ok (.map aK clk) w:=by simp[getObj,Sem.run,g1]
      have hall:(aK.all fun e=>decide (e.born≥last))=es.all fun e=>Nat.ble last e.2.2:=by
       rw[←g2.all (fun b=>Nat.ble last b)]
       rw[←Array.all_toList]
       congr 1
       funext e
       exact(wY _ _).symm
      have wS:aK.isEmpty=es.isEmpty:=by
       have:=g2.length
       rw[Bool.eq_iff_iff]
       simp only[Array.isEmpty_iff_size_eq_zero,List.isEmpty_iff_length_eq_zero]
       simp at this;omega
      cases hnew:(!seen.isEmpty && !es.isEmpty&&es.all (fun e=>Nat.ble last e.2.2)) with
      |true=>exact ah.fail
      |false=>
       simp only[cond_false]
       have G1:((!(⟨seen⟩:Array Nat).isEmpty && !aK.isEmpty&&aK.all fun e=>decide (e.born≥last)):Bool)=false:=by
        rw[hall,wS,←hnew];simp
       have uF:=g2.filter (fun b => !seen.any (Nat.beq b))
       have hleft:(aK.filter fun e => !(⟨seen⟩:Array Nat).contains e.born).toList=aK.toList.filter fun e => !seen.any (Nat.beq e.born):=by
        simp only[Array.toList_filter]
        congr 1
        funext e
        rw[any_beq]
       split
       ·rename_i TM
        rw[TM] at uF
        have wZ:aK.filter (fun e => !(⟨seen⟩:Array Nat).contains e.born)=#[]:=by
         apply Array.ext'
         rw[hleft]
         cases hq:aK.toList.filter fun e => !seen.any (Nat.beq e.born) with
         |nil=>rfl
         |cons y ys=>rw[hq] at uF;cases uF
        refine ah.ok hS (b := .tuple #[.bool false]) ?_ (.tuple _ _ (.cons _ _ _ _ (.bool _) .nil))
        simp only[Instr.next,Sem.run_bind,EC,Result.andThen_ok,ED,G1,Bool.false_eq_true,if_false,wZ]
        simp[Question.forced]
       ·rename_i en TM
        cases hlt:Nat.blt en.2.2 since with
        |false=>exact ah.fail
        |true=>
         have hlt:en.2.2<since:=Nat.blt_eq.mp hlt
         simp only[cond_true]
         rw[TM] at uF
         obtain⟨y,hy,hky,TB,hby⟩:∃ y,aK.toList.filter (fun e => !seen.any (Nat.beq e.born))=[y]∧ay Γ en.1 y.key∧ay Γ en.2.1 y.val∧en.2.2=y.born:=by
          cases hq:aK.toList.filter fun e => !seen.any (Nat.beq e.born) with
          |nil=>rw[hq] at uF;cases uF
          |cons y ys=>
           rw[hq] at uF
           cases uF with
           |cons _ _ _ _ h1 h2 h3 ht=>cases ht;exact⟨y,rfl,h1,h2,h3⟩
         have hone:aK.filter (fun e => !(⟨seen⟩:Array Nat).contains e.born)=#[y]:=by
          apply Array.ext'
          rw[hleft,hy]
         have Mx:Γ.blk a.block=some (ab,0):=hblk
         have gj:=hS.pO (B' := .iter (some m) since (seen++[en.2.2]) clk) (o := .mapIter (some r') since ⟨seen++[y.born]⟩ clk) hB Mx trivial trivial
          (fun w' ⟨_,m',q,_⟩=>⟨_,q,rfl⟩) rfl (fun w' q=>⟨rfl,some r',by rw[hby];exact q,(fun e=>by cases e),(fun z e=>by cases e;exact⟨r',rfl,hr⟩)⟩)
         refine ah.set (e':=pure (.tuple #[.bool true,y.key,y.val])) ?_ (ah.ok gj rfl (.tuple _ _ (.cons _ _ _ _ (.bool _) (.cons _ _ _ _ hky (.cons _ _ _ _ TB .nil)))))
         have wu:∀ o,(setObj ab o).run P w = .ok () { w with heap:=w.heap.setIfInBounds ab o }:=fun o=>by simp[setObj,Sem.run,h1]
         have yG:y.born<since:=by omega
         simp only[Instr.next,Sem.run_bind,EC,Result.andThen_ok,ED,G1,Bool.false_eq_true,if_false,hone]
         have f1:(#[y]:Array MapEntry).filter (fun e=>decide (e.born<since))=#[y]:=by simp[yG]
         have f2:(#[y]:Array MapEntry).filter (fun e=>decide (e.born≥since))=#[]:=by simp;omega
         rw[f1,f2]
         simp[Question.forced,wu]
       ·exact ah.fail
     ·exact ah.fail
    ·exact ah.fail
 ·exact ah.fail
theorem w9 {x x':Value} (hx:ay Γ x x'):dZ P Γ (wD x) (Instr.entry x') ay:=by
 intro W h n w hS
 unfold wD
 split
 ·rename_i a
  cases hx with
  |ptr _ a' ha=>
   cases hoff:Nat.beq a.off 0 with
   |false=>exact ah.fail
   |true=>
    have hoff:=beq_true hoff
    simp only[cond_true]
    refine ah.get fun B hB=>?_
    obtain⟨s,hblk,ho⟩:=ha.at_
    obtain⟨b,s0,e,D4,_⟩:=hS.live _ _ hB
    rw[hblk] at e
    obtain⟨rfl,rfl⟩:a'.block=b∧s=s0:=by simpa using e
    split
    ·rename_i m since seen last _
     obtain⟨rfl,m',h1,_,h3⟩:=D4
     obtain⟨r',rfl,hr⟩:=h3 m rfl
     have ha0:a'.off=0:=by omega
     split
     ·rename_i stamp hst
      refine ah.get fun C hC=>?_
      split
      ·rename_i es clk
       obtain⟨b,s,e,⟨rfl,aK,g1,g2⟩,_⟩:=hS.live _ _ hC
       rw[hr] at e
       obtain⟨rfl,_⟩:r'=b∧0=0:=by simpa using e
       cases hc:Nat.beq clk last with
       |false=>exact ah.fail
       |true=>
        have hc:=beq_true hc
        subst hc
        simp only[cond_true]
        split
        ·rename_i en P6
         obtain⟨y,hy,hk,hv⟩:=g2.find (fun b=>Nat.beq b stamp) en P6
         refine ah.ok hS (b := .tuple #[y.key,y.val]) ?_ (.tuple _ _ (.cons _ _ _ _ hk (.cons _ _ _ _ hv .nil)))
         obtain⟨ab,ao,TL⟩:=a'
         simp only at ha0 h1
         subst ha0
         have EC:(getObj ab).run P w = .ok (.mapIter (some r') since ⟨seen⟩ clk) w:=by simp[getObj,Sem.run,h1]
         have ED:(getObj r').run P w = .ok (.map aK clk) w:=by simp[getObj,Sem.run,g1]
         have My:(⟨seen⟩:Array Nat).back? = some stamp:=by simpa using hst
         have hfind:aK.find? (fun e=>e.born==stamp)=some y:=by
          rw[←Array.find?_toList,←hy];congr 1;funext e;exact(wX _ _).symm
         simp[Instr.entry,EC,ED,My,hfind]
        ·exact ah.fail
      ·exact ah.fail
     ·exact ah.fail
    ·exact ah.fail
 ·exact ah.fail
end
end Go.Am
set_option linter.unusedSimpArgs false
set_option linter.unusedVariables false
namespace Go.Am
open Go.RowKit
theorem w_:Extern.allNextRows.lookup ""=none:=by kernel_rfl
theorem zx:Extern.allNextRows.lookup "sync/atomic.LoadUint64"=none:=by kernel_rfl
theorem xd:Extern.allNextRows.lookup "sync/atomic.StoreUint64"=none:=by kernel_rfl
theorem zy:Extern.allNextRows.lookup "sync/atomic.SwapUint64"=none:=by kernel_rfl
theorem Bq:Extern.allNextRows.lookup "sync/atomic.CompareAndSwapUint64"=none:=by kernel_rfl
theorem Br:Extern.allNextRows.lookup "sync/atomic.AddUint64"=none:=by kernel_rfl
theorem Bt:Extern.allGenericRows.lookup "sync/atomic.LoadUint64"=none:=by kernel_rfl
theorem zz:Extern.allGenericRows.lookup "sync/atomic.StoreUint64"=none:=by kernel_rfl
theorem Bu:Extern.allGenericRows.lookup "sync/atomic.SwapUint64"=none:=by kernel_rfl
theorem EE:Extern.allGenericRows.lookup "sync/atomic.CompareAndSwapUint64"=none:=by kernel_rfl
theorem EF:Extern.allGenericRows.lookup "sync/atomic.AddUint64"=none:=by kernel_rfl
theorem xe:Extern.allTypedRows.lookup "sync/atomic.LoadUint64"=none:=by kernel_rfl
theorem uG:Extern.allTypedRows.lookup "sync/atomic.StoreUint64"=none:=by kernel_rfl
theorem xg:Extern.allTypedRows.lookup "sync/atomic.SwapUint64"=none:=by kernel_rfl
theorem zA:Extern.allTypedRows.lookup "sync/atomic.CompareAndSwapUint64"=none:=by kernel_rfl
theorem zB:Extern.allTypedRows.lookup "sync/atomic.AddUint64"=none:=by kernel_rfl
theorem Bv:Extern.allRows.lookup "sync/atomic.LoadUint64"=some (Extern.Atomic.loadT (.int .u64)):=by kernel_rfl
theorem zC:Extern.allRows.lookup "sync/atomic.StoreUint64"=some Extern.Atomic.storeT:=by kernel_rfl
theorem Bw:Extern.allRows.lookup "sync/atomic.SwapUint64"=some (Extern.Atomic.swapT (.int .u64)):=by kernel_rfl
theorem EG:Extern.allRows.lookup "sync/atomic.CompareAndSwapUint64"=some (Extern.Atomic.casT (.int .u64)):=by kernel_rfl
theorem EH:Extern.allRows.lookup "sync/atomic.AddUint64"=some (Extern.Atomic.update (Op.intArith .add) .u64 true):=by kernel_rfl
def dh:Atomic→Array Value→Sem Value
 | .load=>Extern.Atomic.loadT (.int .u64)
 | .store=>Extern.Atomic.storeT
 | .swap=>Extern.Atomic.swapT (.int .u64)
 | .Me=>Extern.Atomic.casT (.int .u64)
 | .add=>Extern.Atomic.update (Op.intArith .add) .u64 true
open Extern.Atomic in
theorem Bx (x:Value):dh .load ⟨[x]⟩=(do read (.int .u64) (←asAddr x)):=rfl
open Extern.Atomic in
theorem zD (x v:Value):dh .store ⟨[x,v]⟩=(do store (←asAddr x) v .atomic;pure none_):=rfl
open Extern.Atomic in
theorem By (x v:Value):dh .swap ⟨[x,v]⟩=(do let a ←asAddr x;let old ←read (.int .u64) a;store a v .atomic;pure old):=rfl
open Extern.Atomic in
theorem EI (x v:Value):dh .add ⟨[x,v]⟩=(do let a ←asAddr x;let old ←read (.int .u64) a;let new ←Op.intArith .add .u64 (←asInt old) (←asInt v);store a new .atomic;pure new):=rfl
open Extern.Atomic in
theorem yK (x o v:Value):dh .Me ⟨[x,o,v]⟩=(do
  let a ←asAddr x
  if ←touchesFrozen a then unsupported (.unsafePointer "a write to bytes that a string shares")
  let eq ←match T.int .u64,←read (.int .u64) a,o with
   | _,.int _ x,.int _ y=>pure (x==y)
   | .ptr,.pointer x,.pointer y=>samePointer x y
   | .int _,.pointer (some _),.int _ 0 | .int _,.int _ 0,.pointer (some _)=>pure false
   | .int _,.pointer (some _),_ | .int _,_,.pointer (some _)=>unsupported .addressObserved
   | _,_,_=>stuck "atomic.CompareAndSwap: old is no T"
  if eq then store a v .atomic
  pure (.bool eq)):=rfl
section
variable {P:Program} {Γ:aV} {W w:World} {h:PT aj} {n:Nat}
theorem om (k:Atomic):Extern.allNextRows.lookup (dD k)=none:=by
 cases k
 ·exact zx
 ·exact xd
 ·exact zy
 ·exact Bq
 ·exact Br
theorem uH (k:Atomic):Extern.allGenericRows.lookup (dD k)=none∧Extern.allTypedRows.lookup (dD k)=none∧Extern.allRows.lookup (dD k)=some (dh k):=by
 cases k
 ·exact⟨Bt,xe,Bv⟩
 ·exact⟨zz,uG,zC⟩
 ·exact⟨Bu,xg,Bw⟩
 ·exact⟨EE,zA,EG⟩
 ·exact⟨EF,zB,EH⟩
theorem xh {f:FuncId} {fn:Func} {k:Atomic} (hf:P.funcs[f]? = some fn) (hb:fn.body.isSome=false) (hn:fn.name=dD k) (ho:fn.origin=dD k∨fn.origin = "") (args:Array Value) (w:World):
  (callFunc f args).run P w=((dh k args).run P w).andThen fun v w' => .ok (.value v) w':=by
 have uI:(fn.name == "runtime.NumGoroutine")=false:=by rw[hn];cases k<;>decide
 have hb':fn.body.isNone=true:=by cases wm:fn.body with |none=>rfl |some c=>rw[wm] at hb;simp at hb
 have hfn:Extern.findNext fn=none:=by
  unfold Extern.findNext
  rw[hn]
  simp only[om k,Option.map_none]
  rcases ho with ho |ho
  ·rw[ho];simp[om k]
  ·rw[ho];simp[w_]
 obtain⟨h1,h2,h3⟩:=uH k
 have TN:Extern.find fn=some (dh k):=by
  unfold Extern.find
  rw[hn]
  simp only[h1,h2,h3,Option.map_none]
  simp
 unfold callFunc
 simp only[Sem.run_bind,run_program,Result.andThen_ok,hf,uI,Bool.false_eq_true,if_false,hb',if_true,run_mark,hfn,TN,Sem.run_pure]
theorem uJ (k:Atomic) {args args':List Value} (ha:aD Γ args args'):dZ P Γ (sL k args) (dh k ⟨args'⟩) ay:=by
 intro W h n w hS
 have G2:∀ (c:PT Value) (a:Addr) (m:Int),dQ c a=some m→c.get a.off=some (.int .u64 m):=by
  intro c a m hw
  unfold dQ at hw
  split at hw
  ·rename_i hc;obtain rfl:=Option.some.inj hw;exact hc
  ·simp at hw
 have hcell:∀ {a a':Addr} {c:PT Value} {ro:Bool} {m:Int},Γ.addr a a'→h.get a.block=some (.cells c ro)→dQ c a=some m→w.cell? a'=some (.int .u64 m):=by
  intro a a' c ro m jQ hb hw
  obtain⟨v',e,r⟩:=hS.Be hb (G2 _ _ _ hw) jQ rfl
  cases r;exact e
 have uK:∀ {a a':Addr} {c:PT Value},Γ.addr a a'→h.get a.block=some (.cells c false)→w.frozen? a'=false:=by
  intro a a' c jQ hb
  have:=hS.frozen hb jQ rfl 0
  simpa [Addr.add] using this
 have l9:∀ {a a':Addr} {c:PT Value} {m:Int} (v:Int),Γ.addr a a'→h.get a.block=some (.cells c false)→dQ c a=some m→
   aR Γ W (h.set a.block (some (.cells (c.set a.off (some (.int .u64 v))) false))) (w.setCell a' (.int .u64 v)):=by
  intro a a' c m v jQ hb hw
  exact hS.setCell hb jQ rfl (.int _ _) (by rw[G2 _ _ _ hw];rfl)
 have jk:∀ {a a':Addr} {c:PT Value},Γ.addr a a'→h.get a.block=some (.cells c false)→(w.shape? a'.block).isSome=true:=by
  intro a a' c jQ hb
  obtain⟨_,_,_,⟨cs,el,fz,h1,_,_⟩,_⟩:=hS.block hb jQ rfl
  simp[World.shape?,h1]
 unfold sL
 split
 ·rename_i a
  cases ha with
  |cons _ _ _ _ hp ht=>
   cases ht
   cases hp with
   |ptr _ a' jQ=>
    refine ah.get fun B hB=>?_
    split
    ·rename_i c ro
     split
     ·rename_i m hm
      refine ah.ok hS (b := .int .u64 m) ?_ (.int _ _)
      simp[Bx,Extern.Atomic.read,asAddr,hcell jQ hB hm]
     ·exact ah.fail
    ·exact ah.fail
 ·rename_i a v
  cases ha with
  |cons _ _ _ _ hp ht=>
   cases ht with
   |cons _ _ _ _ hv ht=>
    cases ht;cases hv
    cases hp with
    |ptr _ a' jQ=>
     refine ah.get fun B hB=>?_
     split
     ·rename_i c
      split
      ·rename_i m hm
       refine ah.set (e':=pure (.tuple #[])) ?_ (ah.ok (l9 v jQ hB hm) rfl (.tuple _ _ .nil))
       simp[zD,asAddr,run_store P w a' (.int .u64 v) .atomic rfl,hcell jQ hB hm,uK jQ hB,Extern.Atomic.none_]
      ·exact ah.fail
     ·exact ah.fail
 ·rename_i a v
  cases ha with
  |cons _ _ _ _ hp ht=>
   cases ht with
   |cons _ _ _ _ hv ht=>
    cases ht;cases hv
    cases hp with
    |ptr _ a' jQ=>
     refine ah.get fun B hB=>?_
     split
     ·rename_i c
      split
      ·rename_i m hm
       refine ah.set (e':=pure (.int .u64 m)) ?_ (ah.ok (l9 v jQ hB hm) rfl (.int _ _))
       simp[By,Extern.Atomic.read,asAddr,run_store P w a' (.int .u64 v) .atomic rfl,hcell jQ hB hm,uK jQ hB]
      ·exact ah.fail
     ·exact ah.fail
 ·rename_i a o v
  cases ha with
  |cons _ _ _ _ hp ht=>
   cases ht with
   |cons _ _ _ _ ho ht=>
    cases ht with
    |cons _ _ _ _ hv ht=>
     cases ht;cases hv;cases ho
     cases hp with
     |ptr _ a' jQ=>
      refine ah.get fun B hB=>?_
      split
      ·rename_i c
       split
       ·rename_i m hm
        have XM:∀ w',w'=w→(Extern.Atomic.touchesFrozen a').run P w' = .ok false w:=by
         rintro w' rfl
         simp[Extern.Atomic.touchesFrozen,viewAt,jk jQ hB,uK jQ hB]
        cases heq:m==o with
        |true=>
         have heq:m=o:=by simpa using heq
         refine ah.set (e':=pure (.bool true)) ?_ (ah.ok (l9 v jQ hB hm) rfl (.bool _))
         simp[yK,Extern.Atomic.read,asAddr,XM w rfl,hcell jQ hB hm,heq,run_store P w a' (.int .u64 v) .atomic rfl,uK jQ hB]
        |false=>
         have heq: ¬ m=o:=by simpa using heq
         refine ah.ok hS (b := .bool false) ?_ (.bool _)
         simp[yK,Extern.Atomic.read,asAddr,XM w rfl,hcell jQ hB hm,heq]
       ·exact ah.fail
      ·exact ah.fail
 ·rename_i a v
  cases ha with
  |cons _ _ _ _ hp ht=>
   cases ht with
   |cons _ _ _ _ hv ht=>
    cases ht;cases hv
    cases hp with
    |ptr _ a' jQ=>
     refine ah.get fun B hB=>?_
     split
     ·rename_i c
      split
      ·rename_i m hm
       refine ah.set (e':=pure (.int .u64 (IntKind.u64.wrap (m+v)))) ?_ (ah.ok (l9 _ jQ hB hm) rfl (.int _ _))
       simp[EI,Extern.Atomic.read,asAddr,asInt,asIntOf,Op.intArith,run_store P w a' (.int .u64 (IntKind.u64.wrap (m+v))) .atomic rfl,hcell jQ hB hm,uK jQ hB]
      ·exact ah.fail
     ·exact ah.fail
 ·exact ah.fail
theorem q_ (z:Array Value) (k:Nat) (hz:0<z.size):Builtin.zeroCells z k=⟨rep z.toList k⟩:=kH z k hz
theorem xj {ts:Array TypeId} {ty:TypeId} {args args':List Value} (ha:aD Γ args args'):dZ P Γ (wE P ts.toList args) (Builtin.clear_ ts ty ⟨args'⟩) ay:=by
 intro W h n w hS
 unfold wE
 split
 ·rename_i t tr k c rest hts
  obtain⟨tl⟩:=ts
  obtain rfl:tl=t::tr:=hts
  cases ha with
  |cons _ _ _ _ hx ha=>
   cases hx
   split
   ·rename_i d hd
    exact ah.ok hS (b := .tuple #[]) (by simp[Builtin.clear_,az hd]) (.tuple _ _ .nil)
   ·exact ah.fail
 ·rename_i t tr a k c rest hts
  obtain⟨tl⟩:=ts
  obtain rfl:tl=t::tr:=hts
  cases ha with
  |cons _ _ _ _ hx ha=>
   cases hx with
   |slice _ a' _ _ c' ha0 hc=>
    split
    ·rename_i e hd
     cases hk:Nat.beq k 0 with
     |true=>
      have hk:=beq_true hk
      subst hk
      exact ah.ok hS (b := .tuple #[]) (by simp[Builtin.clear_,az hd]) (.tuple _ _ .nil)
     |false=>
      have hk:k≠0:=fun e=>by rw[e] at hk;exact Bool.noConfusion hk
      have jQ:=ha0.exact (.inl (by omega))
      simp only[cond_false]
      split
      ·rename_i i z hi hz
       obtain⟨uq,uz⟩:=b_ hz
       cases hpos:Nat.blt 0 z.cells.toList.length with
       |false=>exact ah.fail
       |true=>
        have hpos:0<z.cells.toList.length:=Nat.blt_eq.mp hpos
        simp only[cond_true]
        refine ah.get fun B hB=>?_
        split
        ·rename_i cc
         split
         ·rename_i c2 Mz
          obtain⟨w',hr,gj⟩:=dI (P:=P) (i:=a.block) (a:=a) (a':=a') rfl _ _ cc c2 0 h w jQ hS hB ((uz Γ).cells.rep k) (by simpa using Mz)
          refine ah.set (w':=w') (e':=pure (.tuple #[])) ?_ (ah.ok gj rfl (.tuple _ _ .nil))
          have hzc:=q_ z.cells k (by simpa using hpos)
          simp[Builtin.clear_,az hd,hk,uq,hzc,hr]
         ·exact ah.fail
        ·exact ah.fail
      ·exact ah.fail
    ·exact ah.fail
 ·exact ah.fail
end
end Go.Am
