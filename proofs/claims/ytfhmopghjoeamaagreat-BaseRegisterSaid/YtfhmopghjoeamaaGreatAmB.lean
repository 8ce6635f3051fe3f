/-
  The abstract machine: frames, regions, code.
-/
import Derived.Test.YtfhmopghjoeamaaGreatAmA
namespace Go.Am
abbrev Over:=FuncId→List Value→Option (AP Value)
variable (P:Program) (O:Over)
def gI:Value := .tuple ⟨[]⟩
def Tm.get (m:Tm) (i:Nat):Value:=match m.t.get i with |some v=>v |none=>gI
def Tm.eval (m:Tm):Operand→Value
 | .tmp i=>m.get i
 | .const v=>v
 | .global g => .pointer (some ⟨g,0,none⟩)
 | .func f => .func (.func f) ⟨[]⟩ ⟨[]⟩
def a_:Operand→Bool
 | .const v=>flat 4 v
 | .global _=>false
 | _=>true
def fF (ops:List Oper) (m:Tm) (j:Nat):Option Bool:=
 match ops[j]? with
 |some o=>match o.dst with
  |some d=>match m.get d with
   | .bool b=>some b
   | _=>none
  |none=>none
 |none=>none
def bU (ops:List Oper) (m:Tm) (o:Oper):Bool:=
 match o.guard with
 |none=>true
 |some (j,want)=>match fF ops m j with
  |some b=>b==want
  |none=>false
inductive bw where
 |normal
 |exit (id:Nat)
 |ret
 deriving Inhabited
def bF {α β:Type} (r:aW α) (k:α→HS→aW β):aW β:=
 match r with
 | .ok a s=>k a s
 | .fail w => .fail w
abbrev jd:=Option Nat→Nat→Code→Tm→HS→aW (bw×Tm)
def bY (lim:Nat) (m:Tm):List ResultVar→HS→aW (List Value)
 | [],s => .ok [] s
 | .tmp t::r,s=>bF (bY lim m r s) fun l s => .ok (m.get t::l) s
 | .cell a t::r,s=>bF ((eu P t (m.get a)).run lim s) fun v s=>bF (bY lim m r s) fun l s => .ok (v::l) s
def l5 (d:Nat):AP Unit:=
 .get d fun
  | .deferred => .kill d (.pure ())
  | _ => .fail "deferred"
def dX (lim:Nat):List Nat→HS→aW Unit
 | [],s => .ok () s
 |d::r,s=>bF ((l5 d).run lim s) fun _ s=>dX lim r s
def oneOf:List Value→Value
 | [v]=>v
 |l => .tuple ⟨l⟩
def iz (lim:Nat) (rs:List ResultVar) (x:bw×Tm) (s:HS):aW Value:=
 match x.1 with
 | .exit _ => .fail "exit out of a body"
 | _=>bF (dX lim x.2.fO s) fun _ s=>bF (bY P lim x.2 rs s) fun l s => .ok (oneOf l) s
def fG (ev:jd) (lim:Nat) (f:FuncId) (args:List Value) (s:HS):aW Value:=
 match P.funcs[f]? with
 |some fn=>match fn.body with
  |some c=>bF (ev none lim c ⟨args.length+(fn.ntmps-args.length),PT.ofList .leaf 0 args,[]⟩ s) fun x s=>iz P lim fn.results.toList x s
  |none => .fail "no body"
 |none => .fail "no function"
def ew (ev:jd) (lim:Nat) (f:FuncId) (args:List Value) (s:HS):aW Value:=
 match O f args with
 |some m=>m.run lim s
 |none=>fG P ev lim f args s
def nC (l:Nat):AP Unit:=
 .get l fun
  | .loop .ready fD tm ps as bd => .set l (.loop .busy fD tm ps as bd) (.pure ())
  | _ => .fail "round not ready"
def sM (l:Nat) (jump:Option Code):AP Value:=
 .get l fun
  | .loop _ _ tm ps as bd => .set l (.loop (cond jump.isNone .ready .done) jump tm ps as bd) (.pure (.bool jump.isNone))
  | _ => .fail "round loop"
def exitCode:bw→Option Code
 | .normal=>none
 | .ret=>some .ret
 | .exit id=>some (.exit id)
def eD (ev:jd) (lim:Nat) (l:Nat) (m:Tm) (as bd:Code) (s:HS):aW Value:=
 bF (ev (some l) lim as m s) fun x s=>match x.1 with
  | .normal=>bF ((nC l).run lim s) fun _ s=>bF (ev (some l) lim bd x.2 s) fun y s=>(sM l (exitCode y.1)).run lim s
  | _ => .fail "round assignment"
def eS (ev:jd) (lim:Nat) (x:aE) (s:HS):aW Value:=
 match x with
 | .value v => .ok v s
 | .skip => .ok gI s
 | .enter f args=>ew P O ev lim f args s
 | .round l m as bd=>eD ev lim l m as bd s
def iJ (ev:jd) (lim:Nat) (ρ:Operand→Value) (o:Oper) (s:HS):aW Value:=
 cond (o.op.operands.toList.all a_) (bF ((iE P ρ o).run lim s) fun x s=>eS P O ev lim x s) (.fail "an address among the constants")
def iK (m:Tm) (d:Option Nat) (v:Value) (s:HS):aW Tm:=match m.put d v with |some m => .ok m s |none => .fail "slot"
def lV (ev:jd) (lim:Nat) (ops:List Oper) (o:Oper) (m:Tm) (s:HS):aW Tm:=
 bF (cond (bU ops m o) (iJ P O ev lim m.eval o s) (.ok gI s)) fun v s=>iK m o.dst v s
def gU (ev:jd) (lim:Nat) (ops:List Oper):List Oper→Tm→HS→aW Tm
 | [],m,s => .ok m s
 |o::r,m,s=>bF (lV P O ev lim ops o m s) fun m s=>gU ev lim ops r m s
structure bI where
 lo:Nat
 hi:Nat
 rd:List Nat
 wr:List Nat
def gV (ev:jd) (ops:List Oper):List Oper→Tm→PT aj→Nat→aW (Tm×List bI)
 | [],m,h,n => .ok (m,[]) ⟨h,n,[],[]⟩
 |o::r,m,h,n=>bF (lV P O ev n ops o m ⟨h,n,[],[]⟩) fun m s=>bF (gV ev ops r m s.heap s.next) fun x s' => .ok (x.1,⟨n,s.next,s.rd,s.wr⟩::x.2) s'
def gJ (acc:List Nat):List Edge→Nat
 | []=>0
 |e::r=>cond (Region.binds .any e) (Nat.lor (Nat.lor (Nat.pow 2 e.on) (acc.getD e.on 0)) (gJ acc r)) (gJ acc r)
def aN:List Nat→List Oper→List Nat
 |acc,[]=>acc
 |acc,o::r=>aN (acc++[gJ acc o.after.toList]) r
def oY:Nat→List Oper→Bool
 | _,[]=>true
 |i,o::r=>o.after.toList.all (fun e => !Region.binds .any e||Nat.blt e.on i)&&oY (Nat.succ i) r
def aP (Mf:List Nat):Nat→List (Nat×Nat)
 |0=>[]
 |j+1=>aP Mf j++((List.range j).filter fun i => !(Mf.getD j 0).testBit i).map fun i=>(i,j)
def EA (ops:List Oper) (l:List (Nat×Nat)):Bool:=
 l.all fun p=>Oper.apart ⟨ops⟩ (ops.getD p.1 default) (ops.getD p.2 default)
def meets (a b:List Nat):Bool:=a.any fun x=>b.any (Nat.beq x)
def bD (a:List Nat) (lo hi:Nat):Bool:=a.any fun x=>Nat.ble lo x&&Nat.blt x hi
def gX (f g:bI):Bool:=
 meets f.wr g.wr||meets f.wr g.rd||meets f.rd g.wr||bD g.rd f.lo f.hi||bD g.wr f.lo f.hi
def cQ (fs:List bI) (l:List (Nat×Nat)):Bool:=
 l.all fun p=>match fs[p.1]?,fs[p.2]? with
  |some f,some g => !gX f g
  | _,_=>false
def below (lim:Nat):List Nat→List Nat→List Nat
 | [],acc=>acc
 |x::r,acc=>below lim r (cond (Nat.blt x lim) (ins x acc) acc)
def aL (lim:Nat):List bI→HS→HS
 | [],s=>s
 |f::fs,s=>aL lim fs { s with rd:=below lim f.rd s.rd,wr:=below lim f.wr s.wr }
def gK (ops:List Oper) (l:List (Nat×Nat)):Bool:=EA ops l&&oY 0 ops
def eE (ev:jd) (lim:Nat) (ops:List Oper) (m:Tm) (s:HS):aW Tm:=
 cond (gK ops (aP (aN [] ops) ops.length))
  (bF (gV P O ev ops ops m s.heap s.next) fun x s'=>
   cond (cQ x.2 (aP (aN [] ops) ops.length))
    (.ok x.1 (cond (Nat.beq lim 0) ⟨s'.heap,s'.next,s.rd,s.wr⟩ (aL lim x.2 ⟨s'.heap,s'.next,s.rd,s.wr⟩)))
    (.fail "operations whose order is open touch one block"))
  (.fail "operations whose order is open share a slot")
def wF (ro:Option Nat) (m:Tm) (ps:List Tmp) (assign body:Code):AP (Nat×List Nat):=
 match ro with
 |some l₀ => .get l₀ fun
  | .loop .. => .new (.loop .ready none m ps assign body) fun l => .pure (l,m.fO)
  | _ => .fail "range round"
 |none => .new .deferred fun d => .new (.loop .ready none m ps assign body) fun l => .pure (l,d::m.fO)
def pK (l:Nat):AP bw:=
 .get l fun
  | .loop st fD tm ps as bd=>match st with
   | .busy => .fail "range busy"
   | _=>match fD with
    |none => .set l (.loop .exhausted none tm ps as bd) (.pure .normal)
    |some .ret => .set l (.loop .exhausted (some .ret) tm ps as bd) (.pure .ret)
    |some (.exit id) => .set l (.loop .exhausted (some (.exit id)) tm ps as bd) (.pure (.exit id))
    |some _ => .fail "range jump"
  | _ => .fail "range loop"
def gY (x:Value) (l:Nat):AP (FuncId×List Value):=
 match x with
 | .func fn first captured=>(f_ P fn captured.toList (first.toList++[.func (.yield l) ⟨[]⟩ ⟨[]⟩])).bind fun
  | .enter f args => .pure (f,args)
  | _ => .fail "range callee"
 | _ => .fail "range nil function"
def eF (ev:jd) (ro:Option Nat) (lim:Nat) (g:Operand) (ps:List Tmp) (assign body:Code) (m:Tm) (s:HS):aW (bw×Tm):=
 cond (a_ g)
  (bF ((wF ro m ps assign body).run lim s) fun ld s=>
   bF ((gY P (m.eval g) ld.1).run lim s) fun fa s=>
    bF (ew P O ev lim fa.1 fa.2 s) fun _ s=>
     bF ((pK ld.1).run lim s) fun x s => .ok (x,{ m with fO:=ld.2 }) s)
  (.fail "range operand")
def bh (ev:jd):jd:=fun ro lim c m s=>
 match c with
 | .skip | .label _ => .ok (.normal,m) s
 | .region _ ops draw=>bF (cond draw (eE P O ev lim ops.toList m s) (gU P O ev lim ops.toList ops.toList m s)) fun m s => .ok (.normal,m) s
 | .seq a b=>bF (ev ro lim a m s) fun x s=>match x.1 with
  | .normal=>ev ro lim b x.2 s
  | _ => .ok x s
 | .cond c a b=>cond (a_ c) (match m.eval c with
  | .bool true=>ev ro lim a m s
  | .bool false=>ev ro lim b m s
  | _ => .fail "cond") (.fail "cond")
 | .block id c=>bF (ev ro lim c m s) fun x s=>match x.1 with
  | .exit i => .ok (cond (Nat.beq i id) .normal (.exit i),x.2) s
  | _ => .ok x s
 | .loop c=>bF (ev ro lim c m s) fun x s=>match x.1 with
  | .normal=>ev ro lim (.loop c) x.2 s
  | _ => .ok x s
 | .exit id => .ok (.exit id,m) s
 | .scope c=>ev ro lim c m s
 | .ret => .ok (.ret,m) s
 | .rangeFunc g ps assign body=>eF P O ev ro lim g ps.toList assign body m s
 | _ => .fail "code"
def jL:Nat→jd:=fun n=>Nat.rec (fun _ _ _ _ _ => .fail "fuel") (fun _ ev=>bh P O ev) n
def sN:HS:=⟨.leaf,0,[],[]⟩
def isTrue:aW Value→Bool
 | .ok (.bool true) _=>true
 | _=>false
def sO (fuel:Nat) (f:FuncId):Bool:=isTrue (ew P O (jL P O fuel) 0 f [] sN)
end Go.Am
