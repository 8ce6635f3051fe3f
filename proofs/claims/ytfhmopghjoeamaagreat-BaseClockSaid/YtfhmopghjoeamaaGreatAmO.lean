/-
  A part of the proof: contracts of inner functions.
-/
import Derived.Test.YtfhmopghjoeamaaGreatAmM
import Derived.KernelRfl
set_option linter.unusedSimpArgs false
set_option linter.unusedVariables false
namespace Go.Am
open Go.RowKit
section
variable {P:Program} {Γ:aT} {W w:World} {h:PT ak} {n:Nat}
theorem uz {t:TypeId} {x x':Value} (hx:ay Γ x x'):dH P Γ (tX P t x) (Instr.range t x') ay:=by
 intro W h n w hS
 unfold tX
 split
 ·rename_i k e hd
  cases hx
  refine ah.new fun hn=>?_
  obtain⟨aH,hst,hb,fJ⟩:=hS.eB hn (.mapIter none 0 #[] 0) (.iter none 0 [] 0) rfl (fun aH w' _ h1=>⟨rfl,none,h1,fun _=>rfl,fun r e=>by cases e⟩)
  refine⟨aH,_,pure (.pointer (some ⟨w.heap.size,0,none⟩)),hst,?_,ah.ok fJ rfl (.ptr _ _ ⟨rfl,rfl,0,hb,rfl⟩)⟩
  simp[Instr.range,au hd]
 ·rename_i k e r hd
  cases hx with
  |map _ r' hr=>
   refine ah.get fun B hB=>?_
   split
   ·rename_i es clk
    obtain⟨b,s,e,⟨rfl,aJ,h1,h2⟩,_⟩:=hS.live _ _ hB
    rw[hr] at e
    obtain⟨rfl,_⟩:r'=b∧0=0:=by simpa using e
    refine ah.new fun hn=>?_
    obtain⟨aH,hst,hb,fJ⟩:=hS.eB hn (.mapIter (some r') clk #[] clk) (.iter (some r) clk [] clk) rfl
     (fun aH w' hle h1=>⟨rfl,some r',h1,(fun e=>by cases e),(fun q e=>by cases e;exact⟨r',rfl,hle.blk _ _ hr⟩)⟩)
    refine⟨aH,_,pure (.pointer (some ⟨w.heap.size,0,none⟩)),hst,?_,ah.ok fJ rfl (.ptr _ _ ⟨rfl,rfl,0,hb,rfl⟩)⟩
    have qy:(getObj r').run P w = .ok (.map aJ clk) w:=by simp[getObj,Sem.run,h1]
    simp[Instr.range,au hd,qy]
   ·exact ah.fail
 ·exact ah.fail
theorem bq.filter (p:Nat→Bool):∀ {es:List (Value×Value×Nat)} {aJ:List MapEntry},bq Γ es aJ→bq Γ (es.filter fun e=>p e.2.2) (aJ.filter fun e=>p e.born)
 | _,_,.nil => .nil
 | _,_,.cons a e l l' h1 h2 hb t=>by
  have ih:=bq.filter p t
  simp only[List.filter_cons,←hb]
  split
  ·exact .cons a e _ _ h1 h2 hb ih
  ·exact ih
theorem bq.all (p:Nat→Bool):∀ {es:List (Value×Value×Nat)} {aJ:List MapEntry},bq Γ es aJ→(aJ.all fun e=>p e.born)=es.all fun e=>p e.2.2
 | _,_,.nil=>rfl
 | _,_,.cons a e l l' h1 h2 hb t=>by
  simp only[List.all_cons,←hb,bq.all p t]
theorem bq.find (p:Nat→Bool):∀ {es:List (Value×Value×Nat)} {aJ:List MapEntry},bq Γ es aJ→∀ a,(es.find? fun e=>p e.2.2)=some a→
  ∃ e,(aJ.find? fun e=>p e.born)=some e∧ay Γ a.1 e.key∧ay Γ a.2.1 e.val
 | _,_,.nil,a,h=>by simp at h
 | _,_,.cons a e l l' h1 h2 hb t,x,h=>by
  simp only[List.find?_cons,←hb] at h ⊢
  split at h
  ·obtain rfl:=Option.some.inj h
   exact⟨e,by simp_all,h1,h2⟩
  ·obtain⟨e',he,hr⟩:=bq.find p t x h
   exact⟨e',by simp_all,hr⟩
theorem uA (a b:Nat):Nat.beq a b=(a==b):=by
 rw[Bool.eq_iff_iff]
 constructor
 ·intro h;rw[Nat.eq_of_beq_eq_true h];simp
 ·intro h;rw[eq_of_beq h];exact Nat.beq_refl _
theorem uB (a b:Nat):Nat.ble a b=decide (a≤b):=by
 rw[Bool.eq_iff_iff];simp[Nat.ble_eq]
theorem any_beq (l:List Nat) (b:Nat):l.any (Nat.beq b)=(⟨l⟩:Array Nat).contains b:=by
 rw[Bool.eq_iff_iff,List.any_eq_true]
 simp only[List.contains_toArray,List.contains_iff_mem]
 constructor
 ·rintro ⟨x,hx,hb⟩;rw[Nat.eq_of_beq_eq_true hb];exact hx
 ·intro hm;exact⟨b,hm,Nat.beq_refl b⟩
theorem wJ {t:TypeId} {x x':Value} {isS:Bool} (hx:ay Γ x x'):dH P Γ (yt x isS) (Instr.next x' isS t) ay:=by
 intro W h n w hS
 unfold yt
 split
 ·rename_i a
  cases hx with
  |ptr _ a' ha=>
   cases hoff:Nat.beq a.off 0 with
   |false=>exact ah.fail
   |true=>
    have hoff:=beq_true hoff
    simp only[cond_true]
    refine ah.get fun B hB=>?_
    obtain⟨s,hblk,ho⟩:=ha.at_
    obtain⟨b,s0,e,A4,_⟩:=hS.live _ _ hB
    rw[hblk] at e
    obtain⟨rfl,rfl⟩:a'.block=b∧s=s0:=by simpa using e
    split
    ·obtain⟨rfl,m',h1,h2,_⟩:=A4
     obtain rfl:=h2 rfl
     have ha0:a'.off=0:=by omega
     refine ah.ok hS (b := .tuple #[.bool false]) ?_ (.tuple _ _ (.cons _ _ _ _ (.bool _) .nil))
     obtain⟨ab,ao,N1⟩:=a'
     simp only at ha0 h1
     subst ha0
     simp[Instr.next,getObj,Sem.run,h1]
    ·rename_i m since seen last _
     obtain⟨rfl,m',h1,_,h3⟩:=A4
     obtain⟨r',rfl,hr⟩:=h3 m rfl
     have ha0:a'.off=0:=by omega
     refine ah.get fun C hC=>?_
     split
     ·rename_i es clk
      obtain⟨b,s,e,⟨rfl,aJ,g1,g2⟩,_⟩:=hS.live _ _ hC
      rw[hr] at e
      obtain⟨rfl,_⟩:r'=b∧0=0:=by simpa using e
      obtain⟨ab,ao,N1⟩:=a'
      simp only at ha0 h1
      subst ha0
      have By:(getObj ab).run P w = .ok (.mapIter (some r') since ⟨seen⟩ last) w:=by simp[getObj,Sem.run,h1]
      have Bz:(getObj r').run P w = .ok (.map aJ clk) w:=by simp[getObj,Sem.run,g1]
      have hall:(aJ.all fun e=>decide (e.born≥last))=es.all fun e=>Nat.ble last e.2.2:=by
       rw[←g2.all (fun b=>Nat.ble last b)]
       rw[←Array.all_toList]
       congr 1
       funext e
       exact(uB _ _).symm
      have uv:aJ.isEmpty=es.isEmpty:=by
       have:=g2.length
       rw[Bool.eq_iff_iff]
       simp only[Array.isEmpty_iff_size_eq_zero,List.isEmpty_iff_length_eq_zero]
       simp at this;omega
      cases hnew:(!seen.isEmpty && !es.isEmpty&&es.all (fun e=>Nat.ble last e.2.2)) with
      |true=>exact ah.fail
      |false=>
       simp only[cond_false]
       have Dw:((!(⟨seen⟩:Array Nat).isEmpty && !aJ.isEmpty&&aJ.all fun e=>decide (e.born≥last)):Bool)=false:=by
        rw[hall,uv,←hnew];simp
       have rP:=g2.filter (fun b => !seen.any (Nat.beq b))
       have hleft:(aJ.filter fun e => !(⟨seen⟩:Array Nat).contains e.born).toList=aJ.toList.filter fun e => !seen.any (Nat.beq e.born):=by
        simp only[Array.toList_filter]
        congr 1
        funext e
        rw[any_beq]
       split
       ·rename_i N2
        rw[N2] at rP
        have yI:aJ.filter (fun e => !(⟨seen⟩:Array Nat).contains e.born)=#[]:=by
         apply Array.ext'
         rw[hleft]
         cases hq:aJ.toList.filter fun e => !seen.any (Nat.beq e.born) with
         |nil=>rfl
         |cons y ys=>rw[hq] at rP;cases rP
        refine ah.ok hS (b := .tuple #[.bool false]) ?_ (.tuple _ _ (.cons _ _ _ _ (.bool _) .nil))
        simp only[Instr.next,Sem.run_bind,By,Result.andThen_ok,Bz,Dw,Bool.false_eq_true,if_false,yI]
        simp[Question.forced]
       ·rename_i en N2
        cases hlt:Nat.blt en.2.2 since with
        |false=>exact ah.fail
        |true=>
         have hlt:en.2.2<since:=Nat.blt_eq.mp hlt
         simp only[cond_true]
         rw[N2] at rP
         obtain⟨y,hy,VZ,NN,hby⟩:∃ y,aJ.toList.filter (fun e => !seen.any (Nat.beq e.born))=[y]∧ay Γ en.1 y.key∧ay Γ en.2.1 y.val∧en.2.2=y.born:=by
          cases hq:aJ.toList.filter fun e => !seen.any (Nat.beq e.born) with
          |nil=>rw[hq] at rP;cases rP
          |cons y ys=>
           rw[hq] at rP
           cases rP with
           |cons _ _ _ _ h1 h2 h3 ht=>cases ht;exact⟨y,rfl,h1,h2,h3⟩
         have hone:aJ.filter (fun e => !(⟨seen⟩:Array Nat).contains e.born)=#[y]:=by
          apply Array.ext'
          rw[hleft,hy]
         have Ib:Γ.blk a.block=some (ab,0):=hblk
         have fJ:=hS.nM (B' := .iter (some m) since (seen++[en.2.2]) clk) (o := .mapIter (some r') since ⟨seen++[y.born]⟩ clk) hB Ib trivial trivial
          (fun w' ⟨_,m',q,_⟩=>⟨_,q,rfl⟩) rfl (fun w' q=>⟨rfl,some r',by rw[hby];exact q,(fun e=>by cases e),(fun z e=>by cases e;exact⟨r',rfl,hr⟩)⟩)
         refine ah.set (e':=pure (.tuple #[.bool true,y.key,y.val])) ?_ (ah.ok fJ rfl (.tuple _ _ (.cons _ _ _ _ (.bool _) (.cons _ _ _ _ VZ (.cons _ _ _ _ NN .nil)))))
         have tU:∀ o,(setObj ab o).run P w = .ok () { w with heap:=w.heap.setIfInBounds ab o }:=fun o=>by simp[setObj,Sem.run,h1]
         have rI:y.born<since:=by omega
         simp only[Instr.next,Sem.run_bind,By,Result.andThen_ok,Bz,Dw,Bool.false_eq_true,if_false,hone]
         have f1:(#[y]:Array MapEntry).filter (fun e=>decide (e.born<since))=#[y]:=by simp[rI]
         have f2:(#[y]:Array MapEntry).filter (fun e=>decide (e.born≥since))=#[]:=by simp;omega
         rw[f1,f2]
         simp[Question.forced,tU]
       ·exact ah.fail
     ·exact ah.fail
    ·exact ah.fail
 ·exact ah.fail
theorem uC {x x':Value} (hx:ay Γ x x'):dH P Γ (tY x) (Instr.entry x') ay:=by
 intro W h n w hS
 unfold tY
 split
 ·rename_i a
  cases hx with
  |ptr _ a' ha=>
   cases hoff:Nat.beq a.off 0 with
   |false=>exact ah.fail
   |true=>
    have hoff:=beq_true hoff
    simp only[cond_true]
    refine ah.get fun B hB=>?_
    obtain⟨s,hblk,ho⟩:=ha.at_
    obtain⟨b,s0,e,A4,_⟩:=hS.live _ _ hB
    rw[hblk] at e
    obtain⟨rfl,rfl⟩:a'.block=b∧s=s0:=by simpa using e
    split
    ·rename_i m since seen last _
     obtain⟨rfl,m',h1,_,h3⟩:=A4
     obtain⟨r',rfl,hr⟩:=h3 m rfl
     have ha0:a'.off=0:=by omega
     split
     ·rename_i stamp hst
      refine ah.get fun C hC=>?_
      split
      ·rename_i es clk
       obtain⟨b,s,e,⟨rfl,aJ,g1,g2⟩,_⟩:=hS.live _ _ hC
       rw[hr] at e
       obtain⟨rfl,_⟩:r'=b∧0=0:=by simpa using e
       cases hc:Nat.beq clk last with
       |false=>exact ah.fail
       |true=>
        have hc:=beq_true hc
        subst hc
        simp only[cond_true]
        split
        ·rename_i en KL
         obtain⟨y,hy,hk,hv⟩:=g2.find (fun b=>Nat.beq b stamp) en KL
         refine ah.ok hS (b := .tuple #[y.key,y.val]) ?_ (.tuple _ _ (.cons _ _ _ _ hk (.cons _ _ _ _ hv .nil)))
         obtain⟨ab,ao,N1⟩:=a'
         simp only at ha0 h1
         subst ha0
         have By:(getObj ab).run P w = .ok (.mapIter (some r') since ⟨seen⟩ clk) w:=by simp[getObj,Sem.run,h1]
         have Bz:(getObj r').run P w = .ok (.map aJ clk) w:=by simp[getObj,Sem.run,g1]
         have Ic:(⟨seen⟩:Array Nat).back? = some stamp:=by simpa using hst
         have hfind:aJ.find? (fun e=>e.born==stamp)=some y:=by
          rw[←Array.find?_toList,←hy];congr 1;funext e;exact(uA _ _).symm
         simp[Instr.entry,By,Bz,Ic,hfind]
        ·exact ah.fail
      ·exact ah.fail
     ·exact ah.fail
    ·exact ah.fail
 ·exact ah.fail
end
end Go.Am
set_option linter.unusedSimpArgs false
set_option linter.unusedVariables false
namespace Go.Am
open Go.RowKit
theorem uD:Extern.allNextRows.lookup ""=none:=by kernel_rfl
theorem wK:Extern.allNextRows.lookup "sync/atomic.LoadUint64"=none:=by kernel_rfl
theorem uE:Extern.allNextRows.lookup "sync/atomic.StoreUint64"=none:=by kernel_rfl
theorem wL:Extern.allNextRows.lookup "sync/atomic.SwapUint64"=none:=by kernel_rfl
theorem yJ:Extern.allNextRows.lookup "sync/atomic.CompareAndSwapUint64"=none:=by kernel_rfl
theorem yK:Extern.allNextRows.lookup "sync/atomic.AddUint64"=none:=by kernel_rfl
theorem yL:Extern.allGenericRows.lookup "sync/atomic.LoadUint64"=none:=by kernel_rfl
theorem wM:Extern.allGenericRows.lookup "sync/atomic.StoreUint64"=none:=by kernel_rfl
theorem yM:Extern.allGenericRows.lookup "sync/atomic.SwapUint64"=none:=by kernel_rfl
theorem BA:Extern.allGenericRows.lookup "sync/atomic.CompareAndSwapUint64"=none:=by kernel_rfl
theorem BD:Extern.allGenericRows.lookup "sync/atomic.AddUint64"=none:=by kernel_rfl
theorem uF:Extern.allTypedRows.lookup "sync/atomic.LoadUint64"=none:=by kernel_rfl
theorem rQ:Extern.allTypedRows.lookup "sync/atomic.StoreUint64"=none:=by kernel_rfl
theorem uG:Extern.allTypedRows.lookup "sync/atomic.SwapUint64"=none:=by kernel_rfl
theorem wN:Extern.allTypedRows.lookup "sync/atomic.CompareAndSwapUint64"=none:=by kernel_rfl
theorem wO:Extern.allTypedRows.lookup "sync/atomic.AddUint64"=none:=by kernel_rfl
theorem yN:Extern.allRows.lookup "sync/atomic.LoadUint64"=some (Extern.Atomic.loadT (.int .u64)):=by kernel_rfl
theorem wP:Extern.allRows.lookup "sync/atomic.StoreUint64"=some Extern.Atomic.storeT:=by kernel_rfl
theorem yO:Extern.allRows.lookup "sync/atomic.SwapUint64"=some (Extern.Atomic.swapT (.int .u64)):=by kernel_rfl
theorem BF:Extern.allRows.lookup "sync/atomic.CompareAndSwapUint64"=some (Extern.Atomic.casT (.int .u64)):=by kernel_rfl
theorem BG:Extern.allRows.lookup "sync/atomic.AddUint64"=some (Extern.Atomic.update (Op.intArith .add) .u64 true):=by kernel_rfl
def cK:Atomic→Array Value→Sem Value
 | .load=>Extern.Atomic.loadT (.int .u64)
 | .store=>Extern.Atomic.storeT
 | .swap=>Extern.Atomic.swapT (.int .u64)
 | .HN=>Extern.Atomic.casT (.int .u64)
 | .add=>Extern.Atomic.update (Op.intArith .add) .u64 true
open Extern.Atomic in
theorem yP (x:Value):cK .load ⟨[x]⟩=(do read (.int .u64) (←asAddr x)):=rfl
open Extern.Atomic in
theorem wQ (x v:Value):cK .store ⟨[x,v]⟩=(do store (←asAddr x) v .atomic;pure none_):=rfl
open Extern.Atomic in
theorem yQ (x v:Value):cK .swap ⟨[x,v]⟩=(do let a ←asAddr x;let old ←read (.int .u64) a;store a v .atomic;pure old):=rfl
open Extern.Atomic in
theorem BH (x v:Value):cK .add ⟨[x,v]⟩=(do let a ←asAddr x;let old ←read (.int .u64) a;let new ←Op.intArith .add .u64 (←asInt old) (←asInt v);store a new .atomic;pure new):=rfl
open Extern.Atomic in
theorem vO (x o v:Value):cK .HN ⟨[x,o,v]⟩=(do
  let a ←asAddr x
  if ←touchesFrozen a then unsupported (.unsafePointer "a write to bytes that a string shares")
  let eq ←match T.int .u64,←read (.int .u64) a,o with
   | _,.int _ x,.int _ y=>pure (x==y)
   | .ptr,.pointer x,.pointer y=>samePointer x y
   | .int _,.pointer (some _),.int _ 0 | .int _,.int _ 0,.pointer (some _)=>pure false
   | .int _,.pointer (some _),_ | .int _,_,.pointer (some _)=>unsupported .addressObserved
   | _,_,_=>stuck "atomic.CompareAndSwap: old is no T"
  if eq then store a v .atomic
  pure (.bool eq)):=rfl
section
variable {P:Program} {Γ:aT} {W w:World} {h:PT ak} {n:Nat}
theorem me (k:Atomic):Extern.allNextRows.lookup (cP k)=none:=by
 cases k
 ·exact wK
 ·exact uE
 ·exact wL
 ·exact yJ
 ·exact yK
theorem rR (k:Atomic):Extern.allGenericRows.lookup (cP k)=none∧Extern.allTypedRows.lookup (cP k)=none∧Extern.allRows.lookup (cP k)=some (cK k):=by
 cases k
 ·exact⟨yL,uF,yN⟩
 ·exact⟨wM,rQ,wP⟩
 ·exact⟨yM,uG,yO⟩
 ·exact⟨BA,wN,BF⟩
 ·exact⟨BD,wO,BG⟩
theorem uH {f:FuncId} {fn:Func} {k:Atomic} (hf:P.funcs[f]? = some fn) (hb:fn.body.isSome=false) (hn:fn.name=cP k) (ho:fn.origin=cP k∨fn.origin = "") (args:Array Value) (w:World):
  (callFunc f args).run P w=((cK k args).run P w).andThen fun v w' => .ok (.value v) w':=by
 have uI:(fn.name == "runtime.NumGoroutine")=false:=by rw[hn];cases k<;>decide
 have hb':fn.body.isNone=true:=by cases A3:fn.body with |none=>rfl |some c=>rw[A3] at hb;simp at hb
 have hfn:Extern.findNext fn=none:=by
  unfold Extern.findNext
  rw[hn]
  simp only[me k,Option.map_none]
  rcases ho with ho |ho
  ·rw[ho];simp[me k]
  ·rw[ho];simp[uD]
 obtain⟨h1,h2,h3⟩:=rR k
 have N3:Extern.find fn=some (cK k):=by
  unfold Extern.find
  rw[hn]
  simp only[h1,h2,h3,Option.map_none]
  simp
 unfold callFunc
 simp only[Sem.run_bind,run_program,Result.andThen_ok,hf,uI,Bool.false_eq_true,if_false,hb',if_true,run_mark,hfn,N3,Sem.run_pure]
theorem rS (k:Atomic) {args args':List Value} (ha:aB Γ args args'):dH P Γ (qj k args) (cK k ⟨args'⟩) ay:=by
 intro W h n w hS
 have Dx:∀ (c:PT Value) (a:Addr) (m:Int),dh c a=some m→c.get a.off=some (.int .u64 m):=by
  intro c a m hw
  unfold dh at hw
  split at hw
  ·rename_i hc;obtain rfl:=Option.some.inj hw;exact hc
  ·simp at hw
 have hcell:∀ {a a':Addr} {c:PT Value} {ro:Bool} {m:Int},Γ.addr a a'→h.get a.block=some (.cells c ro)→dh c a=some m→w.cell? a'=some (.int .u64 m):=by
  intro a a' c ro m jl hb hw
  obtain⟨v',e,r⟩:=hS.yw hb (Dx _ _ _ hw) jl rfl
  cases r;exact e
 have rT:∀ {a a':Addr} {c:PT Value},Γ.addr a a'→h.get a.block=some (.cells c false)→w.frozen? a'=false:=by
  intro a a' c jl hb
  have:=hS.frozen hb jl rfl 0
  simpa [Addr.add] using this
 have kM:∀ {a a':Addr} {c:PT Value} {m:Int} (v:Int),Γ.addr a a'→h.get a.block=some (.cells c false)→dh c a=some m→
   aQ Γ W (h.set a.block (some (.cells (c.set a.off (some (.int .u64 v))) false))) (w.setCell a' (.int .u64 v)):=by
  intro a a' c m v jl hb hw
  exact hS.setCell hb jl rfl (.int _ _) (by rw[Dx _ _ _ hw];rfl)
 have nZ:∀ {a a':Addr} {c:PT Value},Γ.addr a a'→h.get a.block=some (.cells c false)→(w.shape? a'.block).isSome=true:=by
  intro a a' c jl hb
  obtain⟨_,_,_,⟨cs,el,fz,h1,_,_⟩,_⟩:=hS.block hb jl rfl
  simp[World.shape?,h1]
 unfold qj
 split
 ·rename_i a
  cases ha with
  |cons _ _ _ _ hp ht=>
   cases ht
   cases hp with
   |ptr _ a' jl=>
    refine ah.get fun B hB=>?_
    split
    ·rename_i c ro
     split
     ·rename_i m hm
      refine ah.ok hS (b := .int .u64 m) ?_ (.int _ _)
      simp[yP,Extern.Atomic.read,asAddr,hcell jl hB hm]
     ·exact ah.fail
    ·exact ah.fail
 ·rename_i a v
  cases ha with
  |cons _ _ _ _ hp ht=>
   cases ht with
   |cons _ _ _ _ hv ht=>
    cases ht;cases hv
    cases hp with
    |ptr _ a' jl=>
     refine ah.get fun B hB=>?_
     split
     ·rename_i c
      split
      ·rename_i m hm
       refine ah.set (e':=pure (.tuple #[])) ?_ (ah.ok (kM v jl hB hm) rfl (.tuple _ _ .nil))
       simp[wQ,asAddr,run_store P w a' (.int .u64 v) .atomic rfl,hcell jl hB hm,rT jl hB,Extern.Atomic.none_]
      ·exact ah.fail
     ·exact ah.fail
 ·rename_i a v
  cases ha with
  |cons _ _ _ _ hp ht=>
   cases ht with
   |cons _ _ _ _ hv ht=>
    cases ht;cases hv
    cases hp with
    |ptr _ a' jl=>
     refine ah.get fun B hB=>?_
     split
     ·rename_i c
      split
      ·rename_i m hm
       refine ah.set (e':=pure (.int .u64 m)) ?_ (ah.ok (kM v jl hB hm) rfl (.int _ _))
       simp[yQ,Extern.Atomic.read,asAddr,run_store P w a' (.int .u64 v) .atomic rfl,hcell jl hB hm,rT jl hB]
      ·exact ah.fail
     ·exact ah.fail
 ·rename_i a o v
  cases ha with
  |cons _ _ _ _ hp ht=>
   cases ht with
   |cons _ _ _ _ ho ht=>
    cases ht with
    |cons _ _ _ _ hv ht=>
     cases ht;cases hv;cases ho
     cases hp with
     |ptr _ a' jl=>
      refine ah.get fun B hB=>?_
      split
      ·rename_i c
       split
       ·rename_i m hm
        have RO:∀ w',w'=w→(Extern.Atomic.touchesFrozen a').run P w' = .ok false w:=by
         rintro w' rfl
         simp[Extern.Atomic.touchesFrozen,viewAt,nZ jl hB,rT jl hB]
        cases heq:m==o with
        |true=>
         have heq:m=o:=by simpa using heq
         refine ah.set (e':=pure (.bool true)) ?_ (ah.ok (kM v jl hB hm) rfl (.bool _))
         simp[vO,Extern.Atomic.read,asAddr,RO w rfl,hcell jl hB hm,heq,run_store P w a' (.int .u64 v) .atomic rfl,rT jl hB]
        |false=>
         have heq: ¬ m=o:=by simpa using heq
         refine ah.ok hS (b := .bool false) ?_ (.bool _)
         simp[vO,Extern.Atomic.read,asAddr,RO w rfl,hcell jl hB hm,heq]
       ·exact ah.fail
      ·exact ah.fail
 ·rename_i a v
  cases ha with
  |cons _ _ _ _ hp ht=>
   cases ht with
   |cons _ _ _ _ hv ht=>
    cases ht;cases hv
    cases hp with
    |ptr _ a' jl=>
     refine ah.get fun B hB=>?_
     split
     ·rename_i c
      split
      ·rename_i m hm
       refine ah.set (e':=pure (.int .u64 (IntKind.u64.wrap (m+v)))) ?_ (ah.ok (kM _ jl hB hm) rfl (.int _ _))
       simp[BH,Extern.Atomic.read,asAddr,asInt,asIntOf,Op.intArith,run_store P w a' (.int .u64 (IntKind.u64.wrap (m+v))) .atomic rfl,hcell jl hB hm,rT jl hB]
      ·exact ah.fail
     ·exact ah.fail
 ·exact ah.fail
theorem o7 (z:Array Value) (k:Nat) (hz:0<z.size):Builtin.zeroCells z k=⟨rep z.toList k⟩:=jJ z k hz
theorem uJ {ts:Array TypeId} {ty:TypeId} {args args':List Value} (ha:aB Γ args args'):dH P Γ (tZ P ts.toList args) (Builtin.clear_ ts ty ⟨args'⟩) ay:=by
 intro W h n w hS
 unfold tZ
 split
 ·rename_i t tr k c rest hts
  obtain⟨tl⟩:=ts
  obtain rfl:tl=t::tr:=hts
  cases ha with
  |cons _ _ _ _ hx ha=>
   cases hx
   split
   ·rename_i d hd
    exact ah.ok hS (b := .tuple #[]) (by simp[Builtin.clear_,au hd]) (.tuple _ _ .nil)
   ·exact ah.fail
 ·rename_i t tr a k c rest hts
  obtain⟨tl⟩:=ts
  obtain rfl:tl=t::tr:=hts
  cases ha with
  |cons _ _ _ _ hx ha=>
   cases hx with
   |slice _ a' _ _ c' ha0 hc=>
    split
    ·rename_i e hd
     cases hk:Nat.beq k 0 with
     |true=>
      have hk:=beq_true hk
      subst hk
      exact ah.ok hS (b := .tuple #[]) (by simp[Builtin.clear_,au hd]) (.tuple _ _ .nil)
     |false=>
      have hk:k≠0:=fun e=>by rw[e] at hk;exact Bool.noConfusion hk
      have jl:=ha0.exact (.inl (by omega))
      simp only[cond_false]
      split
      ·rename_i i z hi hz
       obtain⟨rz,rG⟩:=bS hz
       cases hpos:Nat.blt 0 z.cells.toList.length with
       |false=>exact ah.fail
       |true=>
        have hpos:0<z.cells.toList.length:=Nat.blt_eq.mp hpos
        simp only[cond_true]
        refine ah.get fun B hB=>?_
        split
        ·rename_i cc
         split
         ·rename_i c2 Ie
          obtain⟨w',hr,fJ⟩:=cT (P:=P) (i:=a.block) (a:=a) (a':=a') rfl _ _ cc c2 0 h w jl hS hB ((rG Γ).cells.rep k) (by simpa using Ie)
          refine ah.set (w':=w') (e':=pure (.tuple #[])) ?_ (ah.ok fJ rfl (.tuple _ _ .nil))
          have V0:=o7 z.cells k (by simpa using hpos)
          simp[Builtin.clear_,au hd,hk,rz,V0,hr]
         ·exact ah.fail
        ·exact ah.fail
      ·exact ah.fail
    ·exact ah.fail
 ·exact ah.fail
end
end Go.Am
