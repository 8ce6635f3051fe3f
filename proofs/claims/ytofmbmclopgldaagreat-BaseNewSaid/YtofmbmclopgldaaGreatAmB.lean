/-
  The abstract machine: frames, regions, code.
-/
import Derived.Test.YtofmbmclopgldaaGreatAmA
namespace Go.Am
abbrev Over:=FuncId→List Value→Option (AP Value)
variable (P:Program) (O:Over)
def cZ:Value := .tuple ⟨[]⟩
def Tm.get (m:Tm) (i:Nat):Value:=match m.t.get i with |some v=>v |none=>cZ
def Tm.eval (m:Tm):Operand→Value
 | .tmp i=>m.get i
 | .const v=>v
 | .global g => .pointer (some ⟨g,0,none⟩)
 | .func f => .func (.func f) ⟨[]⟩ ⟨[]⟩
def aX:Operand→Bool
 | .const v=>flat 4 v
 | .global _=>false
 | _=>true
def fc (ops:List Oper) (m:Tm) (j:Nat):Option Bool:=
 match ops[j]? with
 |some o=>match o.dst with
  |some d=>match m.get d with
   | .bool b=>some b
   | _=>none
  |none=>none
 |none=>none
def bJ (ops:List Oper) (m:Tm) (o:Oper):Bool:=
 match o.guard with
 |none=>true
 |some (j,want)=>match fc ops m j with
  |some b=>b==want
  |none=>false
inductive aV where
 |normal
 |exit (id:Nat)
 |ret
 deriving Inhabited
def bH {α β:Type} (r:aH α) (k:α→HS→aH β):aH β:=
 match r with
 | .ok a s=>k a s
 | .fail w => .fail w
abbrev fU:=Option Nat→Nat→Code→Tm→HS→aH (aV×Tm)
def b8 (lim:Nat) (m:Tm):List ResultVar→HS→aH (List Value)
 | [],s => .ok [] s
 | .tmp t::r,s=>bH (b8 lim m r s) fun l s => .ok (m.get t::l) s
 | .cell a t::r,s=>bH ((dX P t (m.get a)).run lim s) fun v s=>bH (b8 lim m r s) fun l s => .ok (v::l) s
def mI (d:Nat):AP Unit:=
 .get d fun
  | .deferred => .kill d (.pure ())
  | _ => .fail "deferred"
def dO (lim:Nat):List Nat→HS→aH Unit
 | [],s => .ok () s
 |d::r,s=>bH ((mI d).run lim s) fun _ s=>dO lim r s
def oneOf:List Value→Value
 | [v]=>v
 |l => .tuple ⟨l⟩
def gI (lim:Nat) (rs:List ResultVar) (x:aV×Tm) (s:HS):aH Value:=
 match x.1 with
 | .exit _ => .fail "exit out of a body"
 | _=>bH (dO lim x.2.eS s) fun _ s=>bH (b8 P lim x.2 rs s) fun l s => .ok (oneOf l) s
def fk (ev:fU) (lim:Nat) (f:FuncId) (args:List Value) (s:HS):aH Value:=
 match P.funcs[f]? with
 |some fn=>match fn.body with
  |some c=>bH (ev none lim c ⟨args.length+(fn.ntmps-args.length),PT.ofList .leaf 0 args,[]⟩ s) fun x s=>gI P lim fn.results.toList x s
  |none => .fail "no body"
 |none => .fail "no function"
def eB (ev:fU) (lim:Nat) (f:FuncId) (args:List Value) (s:HS):aH Value:=
 match O f args with
 |some m=>m.run lim s
 |none=>fk P ev lim f args s
def pq (l:Nat):AP Unit:=
 .get l fun
  | .loop .ready gH tm ps as bd => .set l (.loop .busy gH tm ps as bd) (.pure ())
  | _ => .fail "round not ready"
def vv (l:Nat) (jump:Option Code):AP Value:=
 .get l fun
  | .loop _ _ tm ps as bd => .set l (.loop (cond jump.isNone .ready .done) jump tm ps as bd) (.pure (.bool jump.isNone))
  | _ => .fail "round loop"
def exitCode:aV→Option Code
 | .normal=>none
 | .ret=>some .ret
 | .exit id=>some (.exit id)
def fN (ev:fU) (lim:Nat) (l:Nat) (m:Tm) (as bd:Code) (s:HS):aH Value:=
 bH (ev (some l) lim as m s) fun x s=>match x.1 with
  | .normal=>bH ((pq l).run lim s) fun _ s=>bH (ev (some l) lim bd x.2 s) fun y s=>(vv l (exitCode y.1)).run lim s
  | _ => .fail "round assignment"
def eC (ev:fU) (lim:Nat) (x:aD) (s:HS):aH Value:=
 match x with
 | .value v => .ok v s
 | .skip => .ok cZ s
 | .enter f args=>eB P O ev lim f args s
 | .round l m as bd=>fN ev lim l m as bd s
def iE (ev:fU) (lim:Nat) (ρ:Operand→Value) (o:Oper) (s:HS):aH Value:=
 cond (o.op.operands.toList.all aX) (bH ((jk P ρ o).run lim s) fun x s=>eC P O ev lim x s) (.fail "an address among the constants")
def iF (m:Tm) (d:Option Nat) (v:Value) (s:HS):aH Tm:=match m.put d v with |some m => .ok m s |none => .fail "slot"
def kS (ev:fU) (lim:Nat) (ops:List Oper) (o:Oper) (m:Tm) (s:HS):aH Tm:=
 bH (cond (bJ ops m o) (iE P O ev lim m.eval o s) (.ok cZ s)) fun v s=>iF m o.dst v s
def gX (ev:fU) (lim:Nat) (ops:List Oper):List Oper→Tm→HS→aH Tm
 | [],m,s => .ok m s
 |o::r,m,s=>bH (kS P O ev lim ops o m s) fun m s=>gX ev lim ops r m s
structure bD where
 lo:Nat
 hi:Nat
 rd:List Nat
 wr:List Nat
def gY (ev:fU) (ops:List Oper):List Oper→Tm→PT ak→Nat→aH (Tm×List bD)
 | [],m,h,n => .ok (m,[]) ⟨h,n,[],[]⟩
 |o::r,m,h,n=>bH (kS P O ev n ops o m ⟨h,n,[],[]⟩) fun m s=>bH (gY ev ops r m s.heap s.next) fun x s' => .ok (x.1,⟨n,s.next,s.rd,s.wr⟩::x.2) s'
def gJ (acc:List Nat):List Edge→Nat
 | []=>0
 |e::r=>cond (Region.binds .any e) (Nat.lor (Nat.lor (Nat.pow 2 e.on) (acc.getD e.on 0)) (gJ acc r)) (gJ acc r)
def aO:List Nat→List Oper→List Nat
 |acc,[]=>acc
 |acc,o::r=>aO (acc++[gJ acc o.after.toList]) r
def j0:Nat→List Oper→Bool
 | _,[]=>true
 |i,o::r=>o.after.toList.all (fun e => !Region.binds .any e||Nat.blt e.on i)&&j0 (Nat.succ i) r
def aL (uA:List Nat):Nat→List (Nat×Nat)
 |0=>[]
 |j+1=>aL uA j++((List.range j).filter fun i => !(uA.getD j 0).testBit i).map fun i=>(i,j)
def rj (ops:List Oper) (l:List (Nat×Nat)):Bool:=
 l.all fun p=>Oper.apart ⟨ops⟩ (ops.getD p.1 default) (ops.getD p.2 default)
def meets (a b:List Nat):Bool:=a.any fun x=>b.any (Nat.beq x)
def bw (a:List Nat) (lo hi:Nat):Bool:=a.any fun x=>Nat.ble lo x&&Nat.blt x hi
def gZ (f g:bD):Bool:=
 meets f.wr g.wr||meets f.wr g.rd||meets f.rd g.wr||bw g.rd f.lo f.hi||bw g.wr f.lo f.hi
def cG (fs:List bD) (l:List (Nat×Nat)):Bool:=
 l.all fun p=>match fs[p.1]?,fs[p.2]? with
  |some f,some g => !gZ f g
  | _,_=>false
def below (lim:Nat):List Nat→List Nat→List Nat
 | [],acc=>acc
 |x::r,acc=>below lim r (cond (Nat.blt x lim) (ins x acc) acc)
def aQ (lim:Nat):List bD→HS→HS
 | [],s=>s
 |f::fs,s=>aQ lim fs { s with rd:=below lim f.rd s.rd,wr:=below lim f.wr s.wr }
def fO (ops:List Oper) (l:List (Nat×Nat)):Bool:=rj ops l&&j0 0 ops
def eD (ev:fU) (lim:Nat) (ops:List Oper) (m:Tm) (s:HS):aH Tm:=
 cond (fO ops (aL (aO [] ops) ops.length))
  (bH (gY P O ev ops ops m s.heap s.next) fun x s'=>
   cond (cG x.2 (aL (aO [] ops) ops.length))
    (.ok x.1 (cond (Nat.beq lim 0) ⟨s'.heap,s'.next,s.rd,s.wr⟩ (aQ lim x.2 ⟨s'.heap,s'.next,s.rd,s.wr⟩)))
    (.fail "operations whose order is open touch one block"))
  (.fail "operations whose order is open share a slot")
def vw (ro:Option Nat) (m:Tm) (ps:List Tmp) (assign body:Code):AP (Nat×List Nat):=
 match ro with
 |some l₀ => .get l₀ fun
  | .loop .. => .new (.loop .ready none m ps assign body) fun l => .pure (l,m.eS)
  | _ => .fail "range round"
 |none => .new .deferred fun d => .new (.loop .ready none m ps assign body) fun l => .pure (l,d::m.eS)
def om (l:Nat):AP aV:=
 .get l fun
  | .loop st gH tm ps as bd=>match st with
   | .busy => .fail "range busy"
   | _=>match gH with
    |none => .set l (.loop .exhausted none tm ps as bd) (.pure .normal)
    |some .ret => .set l (.loop .exhausted (some .ret) tm ps as bd) (.pure .ret)
    |some (.exit id) => .set l (.loop .exhausted (some (.exit id)) tm ps as bd) (.pure (.exit id))
    |some _ => .fail "range jump"
  | _ => .fail "range loop"
def g_ (x:Value) (l:Nat):AP (FuncId×List Value):=
 match x with
 | .func fn first captured=>(gS P fn captured.toList (first.toList++[.func (.yield l) ⟨[]⟩ ⟨[]⟩])).bind fun
  | .enter f args => .pure (f,args)
  | _ => .fail "range callee"
 | _ => .fail "range nil function"
def eE (ev:fU) (ro:Option Nat) (lim:Nat) (g:Operand) (ps:List Tmp) (assign body:Code) (m:Tm) (s:HS):aH (aV×Tm):=
 cond (aX g)
  (bH ((vw ro m ps assign body).run lim s) fun ld s=>
   bH ((g_ P (m.eval g) ld.1).run lim s) fun fa s=>
    bH (eB P O ev lim fa.1 fa.2 s) fun _ s=>
     bH ((om ld.1).run lim s) fun x s => .ok (x,{ m with eS:=ld.2 }) s)
  (.fail "range operand")
def aY (ev:fU):fU:=fun ro lim c m s=>
 match c with
 | .skip | .label _ => .ok (.normal,m) s
 | .region _ ops draw=>bH (cond draw (eD P O ev lim ops.toList m s) (gX P O ev lim ops.toList ops.toList m s)) fun m s => .ok (.normal,m) s
 | .seq a b=>bH (ev ro lim a m s) fun x s=>match x.1 with
  | .normal=>ev ro lim b x.2 s
  | _ => .ok x s
 | .cond c a b=>cond (aX c) (match m.eval c with
  | .bool true=>ev ro lim a m s
  | .bool false=>ev ro lim b m s
  | _ => .fail "cond") (.fail "cond")
 | .block id c=>bH (ev ro lim c m s) fun x s=>match x.1 with
  | .exit i => .ok (cond (Nat.beq i id) .normal (.exit i),x.2) s
  | _ => .ok x s
 | .loop c=>bH (ev ro lim c m s) fun x s=>match x.1 with
  | .normal=>ev ro lim (.loop c) x.2 s
  | _ => .ok x s
 | .exit id => .ok (.exit id,m) s
 | .scope c=>ev ro lim c m s
 | .ret => .ok (.ret,m) s
 | .rangeFunc g ps assign body=>eE P O ev ro lim g ps.toList assign body m s
 | _ => .fail "code"
def jW:Nat→fU:=fun n=>Nat.rec (fun _ _ _ _ _ => .fail "fuel") (fun _ ev=>aY P O ev) n
def oo:HS:=⟨.leaf,0,[],[]⟩
def isTrue:aH Value→Bool
 | .ok (.bool true) _=>true
 | _=>false
def rq (fuel:Nat) (f:FuncId):Bool:=isTrue (eB P O (jW P O fuel) 0 f [] oo)
end Go.Am
