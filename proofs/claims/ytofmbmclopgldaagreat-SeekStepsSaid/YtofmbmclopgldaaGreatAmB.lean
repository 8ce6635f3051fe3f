/-
A part.
-/
import Derived.Test.YtofmbmclopgldaaGreatAmA
set_option linter.all false
namespace Go.Am
abbrev Over:=FuncId→List Value→Option (AP Value)
variable (P:Program) (O:Over)
def dY:Value := .tuple ⟨[]⟩
def Tm.get(m:Tm)(i:Nat):Value:=match m.t.get i with |some v=>v |none=>dY
def Tm.eval(m:Tm):Operand→Value
 | .tmp i=>m.get i
 | .const v=>v
 | .global g => .pointer (some ⟨g,0,none⟩)
 | .func f => .func (.func f) ⟨[]⟩ ⟨[]⟩
def bz:Operand→Bool
 | .const v=>flat 4 v
 | .global _=>false
 | _=>true
def ig(ops:List Oper)(m:Tm)(j:Nat):Option Bool:=
 match ops[j]? with
 |some o=>match o.dst with
  |some d=>match m.get d with
   | .bool b=>some b
   | _=>none
  |none=>none
 |none=>none
def b_(ops:List Oper)(m:Tm)(o:Oper):Bool:=
 match o.guard with
 |none=>true
 |some (j,want)=>match ig ops m j with
  |some b=>b==want
  |none=>false
inductive bp where
 |normal
 |exit (id:Nat)
 |ret
 deriving Inhabited
def bP{α β:Type}(r:aO α)(k:α→HS→aO β):aO β:=
 match r with
 | .ok a s=>k a s
 | .fail w => .fail w
abbrev iL:=Option Nat→Nat→Code→Tm→HS→aO (bp×Tm)
def cD(lim:Nat)(m:Tm):List ResultVar→HS→aO (List Value)
 | [],s => .ok [] s
 | .tmp t::r,s=>bP (cD lim m r s) fun l s => .ok (m.get t::l) s
 | .cell a t::r,s=>bP ((fG P t (m.get a)).run lim s) fun v s=>bP (cD lim m r s) fun l s => .ok (v::l) s
def pX(d:Nat):AP Unit:=
 .get d fun
  | .deferred => .kill d (.pure ())
  | _ => .fail "deferred"
def fB(lim:Nat):List Nat→HS→aO Unit
 | [],s => .ok () s
 |d::r,s=>bP ((pX d).run lim s) fun _ s=>fB lim r s
def oneOf:List Value→Value
 | [v]=>v
 |l => .tuple ⟨l⟩
def iH(lim:Nat)(rs:List ResultVar)(x:bp×Tm)(s:HS):aO Value:=
 match x.1 with
 | .exit _ => .fail "exit out of a body"
 | _=>bP (fB lim x.2.fF s) fun _ s=>bP (cD P lim x.2 rs s) fun l s => .ok (oneOf l) s
def gV(ev:iL)(lim:Nat)(f:FuncId)(args:List Value)(s:HS):aO Value:=
 match P.funcs[f]? with
 |some fn=>match fn.body with
  |some c=>bP (ev none lim c ⟨args.length+(fn.ntmps-args.length),PT.ofList .leaf 0 args,[]⟩ s) fun x s=>iH P lim fn.results.toList x s
  |none => .fail "no body"
 |none => .fail "no function"
def fT(ev:iL)(lim:Nat)(f:FuncId)(args:List Value)(s:HS):aO Value:=
 match O f args with
 |some m=>m.run lim s
 |none=>gV P ev lim f args s
def tP(l:Nat):AP Unit:=
 .get l fun
  | .loop .ready h_ tm ps as bd => .set l (.loop .busy h_ tm ps as bd) (.pure ())
  | _ => .fail "round not ready"
def Bc(l:Nat)(jump:Option Code):AP Value:=
 .get l fun
  | .loop _ _ tm ps as bd => .set l (.loop (cond jump.isNone .ready .done) jump tm ps as bd) (.pure (.bool jump.isNone))
  | _ => .fail "round loop"
def exitCode:bp→Option Code
 | .normal=>none
 | .ret=>some .ret
 | .exit id=>some (.exit id)
def ga(ev:iL)(lim:Nat)(l:Nat)(m:Tm)(as bd:Code)(s:HS):aO Value:=
 bP (ev (some l) lim as m s) fun x s=>match x.1 with
  | .normal=>bP ((tP l).run lim s) fun _ s=>bP (ev (some l) lim bd x.2 s) fun y s=>(Bc l (exitCode y.1)).run lim s
  | _ => .fail "round assignment"
def fU(ev:iL)(lim:Nat)(x:aG)(s:HS):aO Value:=
 match x with
 | .value v => .ok v s
 | .skip => .ok dY s
 | .enter f args=>fT P O ev lim f args s
 | .round l m as bd=>ga ev lim l m as bd s
def jr(ev:iL)(lim:Nat)(ρ:Operand→Value)(o:Oper)(s:HS):aO Value:=
 cond (o.op.operands.toList.all bz) (bP ((k7 P ρ o).run lim s) fun x s=>fU P O ev lim x s) (.fail "an address among the constants")
def jt(m:Tm)(d:Option Nat)(v:Value)(s:HS):aO Tm:=match m.put d v with |some m => .ok m s |none => .fail "slot"
def lW(ev:iL)(lim:Nat)(ops:List Oper)(o:Oper)(m:Tm)(s:HS):aO Tm:=
 bP (cond (b_ ops m o) (jr P O ev lim m.eval o s) (.ok dY s)) fun v s=>jt m o.dst v s
def jl(ev:iL)(lim:Nat)(ops:List Oper):List Oper→Tm→HS→aO Tm
 | [],m,s => .ok m s
 |o::r,m,s=>bP (lW P O ev lim ops o m s) fun m s=>jl ev lim ops r m s
structure bO where
 lo:Nat
 hi:Nat
 rd:List Nat
 wr:List Nat
def g8(ev:iL)(ops:List Oper):List Oper→Tm→PT aj→Nat→aO (Tm×List bO)
 | [],m,h,n => .ok (m,[]) ⟨h,n,[],[]⟩
 |o::r,m,h,n=>bP (lW P O ev n ops o m ⟨h,n,[],[]⟩) fun m s=>bP (g8 ev ops r m s.heap s.next) fun x s' => .ok (x.1,⟨n,s.next,s.rd,s.wr⟩::x.2) s'
def ju(acc:List Nat):List Edge→Nat
 | []=>0
 |e::r=>cond (Region.binds .any e) (Nat.lor (Nat.lor (Nat.pow 2 e.on) (acc.getD e.on 0)) (ju acc r)) (ju acc r)
def aU:List Nat→List Oper→List Nat
 |acc,[]=>acc
 |acc,o::r=>aU (acc++[ju acc o.after.toList]) r
def mZ:Nat→List Oper→Bool
 | _,[]=>true
 |i,o::r=>o.after.toList.all (fun e => !Region.binds .any e||Nat.blt e.on i)&&mZ (Nat.succ i) r
def aR(zP:List Nat):Nat→List (Nat×Nat)
 |0=>[]
 |j+1=>aR zP j++((List.range j).filter fun i => !(zP.getD j 0).testBit i).map fun i=>(i,j)
def vQ(ops:List Oper)(l:List (Nat×Nat)):Bool:=
 l.all fun p=>Oper.apart ⟨ops⟩ (ops.getD p.1 default) (ops.getD p.2 default)
def meets(a b:List Nat):Bool:=a.any fun x=>b.any (Nat.beq x)
def bR(a:List Nat)(lo hi:Nat):Bool:=a.any fun x=>Nat.ble lo x&&Nat.blt x hi
def jM(f g:bO):Bool:=
 meets f.wr g.wr||meets f.wr g.rd||meets f.rd g.wr||bR g.rd f.lo f.hi||bR g.wr f.lo f.hi
def dc(fs:List bO)(l:List (Nat×Nat)):Bool:=
 l.all fun p=>match fs[p.1]?,fs[p.2]? with
  |some f,some g => !jM f g
  | _,_=>false
def below(lim:Nat):List Nat→List Nat→List Nat
 | [],acc=>acc
 |x::r,acc=>below lim r (cond (Nat.blt x lim) (ins x acc) acc)
def aT(lim:Nat):List bO→HS→HS
 | [],s=>s
 |f::fs,s=>aT lim fs { s with rd:=below lim f.rd s.rd,wr:=below lim f.wr s.wr }
def g9(ops:List Oper)(l:List (Nat×Nat)):Bool:=vQ ops l&&mZ 0 ops
def fJ(ev:iL)(lim:Nat)(ops:List Oper)(m:Tm)(s:HS):aO Tm:=
 cond (g9 ops (aR (aU [] ops) ops.length))
  (bP (g8 P O ev ops ops m s.heap s.next) fun x s'=>
   cond (dc x.2 (aR (aU [] ops) ops.length))
    (.ok x.1 (cond (Nat.beq lim 0) ⟨s'.heap,s'.next,s.rd,s.wr⟩ (aT lim x.2 ⟨s'.heap,s'.next,s.rd,s.wr⟩)))
    (.fail "operations whose order is open touch one block"))
  (.fail "operations whose order is open share a slot")
def FG(ro:Option Nat)(m:Tm)(ps:List Tmp)(assign body:Code):AP (Nat×List Nat):=
 match ro with
 |some l₀ => .get l₀ fun
  | .loop .. => .new (.loop .ready none m ps assign body) fun l => .pure (l,m.fF)
  | _ => .fail "range round"
 |none => .new .deferred fun d => .new (.loop .ready none m ps assign body) fun l => .pure (l,d::m.fF)
def wL(l:Nat):AP bp:=
 .get l fun
  | .loop st h_ tm ps as bd=>match st with
   | .busy => .fail "range busy"
   | _=>match h_ with
    |none => .set l (.loop .exhausted none tm ps as bd) (.pure .normal)
    |some .ret => .set l (.loop .exhausted (some .ret) tm ps as bd) (.pure .ret)
    |some (.exit id) => .set l (.loop .exhausted (some (.exit id)) tm ps as bd) (.pure (.exit id))
    |some _ => .fail "range jump"
  | _ => .fail "range loop"
def lf(x:Value)(l:Nat):AP (FuncId×List Value):=
 match x with
 | .func fn first captured=>(j7 P fn captured.toList (first.toList++[.func (.yield l) ⟨[]⟩ ⟨[]⟩])).bind fun
  | .enter f args => .pure (f,args)
  | _ => .fail "range callee"
 | _ => .fail "range nil function"
def fL(ev:iL)(ro:Option Nat)(lim:Nat)(g:Operand)(ps:List Tmp)(assign body:Code)(m:Tm)(s:HS):aO (bp×Tm):=
 cond (bz g)
  (bP ((FG ro m ps assign body).run lim s) fun ld s=>
   bP ((lf P (m.eval g) ld.1).run lim s) fun fa s=>
    bP (fT P O ev lim fa.1 fa.2 s) fun _ s=>
     bP ((wL ld.1).run lim s) fun x s => .ok (x,{ m with fF:=ld.2 }) s)
  (.fail "range operand")
def br(ev:iL):iL:=fun ro lim c m s=>
 match c with
 | .skip | .label _ => .ok (.normal,m) s
 | .region _ ops draw=>bP (cond draw (fJ P O ev lim ops.toList m s) (jl P O ev lim ops.toList ops.toList m s)) fun m s => .ok (.normal,m) s
 | .seq a b=>bP (ev ro lim a m s) fun x s=>match x.1 with
  | .normal=>ev ro lim b x.2 s
  | _ => .ok x s
 | .cond c a b=>cond (bz c) (match m.eval c with
  | .bool true=>ev ro lim a m s
  | .bool false=>ev ro lim b m s
  | _ => .fail "cond") (.fail "cond")
 | .block id c=>bP (ev ro lim c m s) fun x s=>match x.1 with
  | .exit i => .ok (cond (Nat.beq i id) .normal (.exit i),x.2) s
  | _ => .ok x s
 | .loop c=>bP (ev ro lim c m s) fun x s=>match x.1 with
  | .normal=>ev ro lim (.loop c) x.2 s
  | _ => .ok x s
 | .exit id => .ok (.exit id,m) s
 | .scope c=>ev ro lim c m s
 | .ret => .ok (.ret,m) s
 | .rangeFunc g ps assign body=>fL P O ev ro lim g ps.toList assign body m s
 | _ => .fail "code"
def mQ:Nat→iL:=fun n=>Nat.rec (fun _ _ _ _ _ => .fail "fuel") (fun _ ev=>br P O ev) n
def rV:HS:=⟨.leaf,0,[],[]⟩
def isTrue:aO Value→Bool
 | .ok (.bool true) _=>true
 | _=>false
def vR(fuel:Nat)(f:FuncId):Bool:=isTrue (fT P O (mQ P O fuel) 0 f [] rV)
end Go.Am
