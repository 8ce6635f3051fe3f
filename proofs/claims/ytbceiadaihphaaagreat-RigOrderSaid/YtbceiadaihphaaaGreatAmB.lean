/-
  The abstract machine: frames, regions, code.
-/
import Derived.Test.YtbceiadaihphaaaGreatAmA
namespace Go.Am
abbrev dK:=FuncId→List Value→Option (AP Value)
variable (P:Program) (O:dK)
def ij:Value := .tuple ⟨[]⟩
def Tm.get (m:Tm) (i:Nat):Value:=match m.t.get i with |some v=>v |none=>ij
def Tm.eval (m:Tm):Operand→Value
 | .tmp i=>m.get i
 | .const v=>v
 | .global g => .pointer (some ⟨g,0,none⟩)
 | .func f => .func (.func f) ⟨[]⟩ ⟨[]⟩
def bt:Operand→Bool
 | .const v=>flat 4 v
 | .global _=>false
 | _=>true
def gV (ops:List Oper) (m:Tm) (j:Nat):Option Bool:=
 match ops[j]? with
 |some o=>match o.dst with
  |some d=>match m.get d with
   | .bool b=>some b
   | _=>none
  |none=>none
 |none=>none
def cI (ops:List Oper) (m:Tm) (o:Oper):Bool:=
 match o.guard with
 |none=>true
 |some (j,want)=>match gV ops m j with
  |some b=>b==want
  |none=>false
inductive bJ where
 |normal
 |exit (id:Nat)
 |ret
 deriving Inhabited
def bT {α β:Type} (r:bw α) (k:α→HS→bw β):bw β:=
 match r with
 | .ok a s=>k a s
 | .fail w => .fail w
abbrev ke:=Option Nat→Nat→Code→Tm→HS→bw (bJ×Tm)
def cP (lim:Nat) (m:Tm):List ResultVar→HS→bw (List Value)
 | [],s => .ok [] s
 | .tmp t::r,s=>bT (cP lim m r s) fun l s => .ok (m.get t::l) s
 | .cell a t::r,s=>bT ((fT P t (m.get a)).run lim s) fun v s=>bT (cP lim m r s) fun l s => .ok (v::l) s
def mH (d:Nat):AP Unit:=
 .get d fun
  | .deferred => .kill d (.pure ())
  | _ => .fail "deferred"
def eI (lim:Nat):List Nat→HS→bw Unit
 | [],s => .ok () s
 |d::r,s=>bT ((mH d).run lim s) fun _ s=>eI lim r s
def oneOf:List Value→Value
 | [v]=>v
 |l => .tuple ⟨l⟩
def iR (lim:Nat) (rs:List ResultVar) (x:bJ×Tm) (s:HS):bw Value:=
 match x.1 with
 | .exit _ => .fail "exit out of a body"
 | _=>bT (eI lim x.2.gD s) fun _ s=>bT (cP P lim x.2 rs s) fun l s => .ok (oneOf l) s
def fZ (ev:ke) (lim:Nat) (f:FuncId) (args:List Value) (s:HS):bw Value:=
 match P.funcs[f]? with
 |some fn=>match fn.body with
  |some c=>bT (ev none lim c ⟨args.length+(fn.ntmps-args.length),PT.ofList .leaf 0 args,[]⟩ s) fun x s=>iR P lim fn.results.toList x s
  |none => .fail "no body"
 |none => .fail "no function"
def fD (ev:ke) (lim:Nat) (f:FuncId) (args:List Value) (s:HS):bw Value:=
 match O f args with
 |some m=>m.run lim s
 |none=>fZ P ev lim f args s
def mI (l:Nat):AP Unit:=
 .get l fun
  | .loop .ready ig tm ps as bd => .set l (.loop .busy ig tm ps as bd) (.pure ())
  | _ => .fail "round not ready"
def qH (l:Nat) (jump:Option Code):AP Value:=
 .get l fun
  | .loop _ _ tm ps as bd => .set l (.loop (cond jump.isNone .ready .done) jump tm ps as bd) (.pure (.bool jump.isNone))
  | _ => .fail "round loop"
def exitCode:bJ→Option Code
 | .normal=>none
 | .ret=>some .ret
 | .exit id=>some (.exit id)
def fP (ev:ke) (lim:Nat) (l:Nat) (m:Tm) (as bd:Code) (s:HS):bw Value:=
 bT (ev (some l) lim as m s) fun x s=>match x.1 with
  | .normal=>bT ((mI l).run lim s) fun _ s=>bT (ev (some l) lim bd x.2 s) fun y s=>(qH l (exitCode y.1)).run lim s
  | _ => .fail "round assignment"
def f_ (ev:ke) (lim:Nat) (x:aJ) (s:HS):bw Value:=
 match x with
 | .value v => .ok v s
 | .skip => .ok ij s
 | .enter f args=>fD P O ev lim f args s
 | .round l m as bd=>fP ev lim l m as bd s
def jH (ev:ke) (lim:Nat) (ρ:Operand→Value) (o:Oper) (s:HS):bw Value:=
 cond (o.op.operands.toList.all bt) (bT ((jA P ρ o).run lim s) fun x s=>f_ P O ev lim x s) (.fail "an address among the constants")
def jI (m:Tm) (d:Option Nat) (v:Value) (s:HS):bw Tm:=match m.put d v with |some m => .ok m s |none => .fail "slot"
def n6 (ev:ke) (lim:Nat) (ops:List Oper) (o:Oper) (m:Tm) (s:HS):bw Tm:=
 bT (cond (cI ops m o) (jH P O ev lim m.eval o s) (.ok ij s)) fun v s=>jI m o.dst v s
def bX (ev:ke) (lim:Nat) (ops:List Oper):List Oper→Tm→HS→bw Tm
 | [],m,s => .ok m s
 |o::r,m,s=>bT (n6 P O ev lim ops o m s) fun m s=>bX ev lim ops r m s
structure cm where
 lo:Nat
 hi:Nat
 rd:List Nat
 wr:List Nat
def jg (ev:ke) (ops:List Oper):List Oper→Tm→PT aj→Nat→bw (Tm×List cm)
 | [],m,h,n => .ok (m,[]) ⟨h,n,[],[]⟩
 |o::r,m,h,n=>bT (n6 P O ev n ops o m ⟨h,n,[],[]⟩) fun m s=>bT (jg ev ops r m s.heap s.next) fun x s' => .ok (x.1,⟨n,s.next,s.rd,s.wr⟩::x.2) s'
def iT (acc:List Nat):List Edge→Nat
 | []=>0
 |e::r=>cond (Region.binds .any e) (Nat.lor (Nat.lor (Nat.pow 2 e.on) (acc.getD e.on 0)) (iT acc r)) (iT acc r)
def aY:List Nat→List Oper→List Nat
 |acc,[]=>acc
 |acc,o::r=>aY (acc++[iT acc o.after.toList]) r
def qI:Nat→List Oper→Bool
 | _,[]=>true
 |i,o::r=>o.after.toList.all (fun e => !Region.binds .any e||Nat.blt e.on i)&&qI (Nat.succ i) r
def a_ (O7:List Nat):Nat→List (Nat×Nat)
 |0=>[]
 |j+1=>a_ O7 j++((List.range j).filter fun i => !(O7.getD j 0).testBit i).map fun i=>(i,j)
def Gs (ops:List Oper) (l:List (Nat×Nat)):Bool:=
 l.all fun p=>Oper.apart ⟨ops⟩ (ops.getD p.1 default) (ops.getD p.2 default)
def meets (a b:List Nat):Bool:=a.any fun x=>b.any (Nat.beq x)
def bZ (a:List Nat) (lo hi:Nat):Bool:=a.any fun x=>Nat.ble lo x&&Nat.blt x hi
def jk (f g:cm):Bool:=
 meets f.wr g.wr||meets f.wr g.rd||meets f.rd g.wr||bZ g.rd f.lo f.hi||bZ g.wr f.lo f.hi
def dU (fs:List cm) (l:List (Nat×Nat)):Bool:=
 l.all fun p=>match fs[p.1]?,fs[p.2]? with
  |some f,some g => !jk f g
  | _,_=>false
def below (lim:Nat):List Nat→List Nat→List Nat
 | [],acc=>acc
 |x::r,acc=>below lim r (cond (Nat.blt x lim) (ins x acc) acc)
def aU (lim:Nat):List cm→HS→HS
 | [],s=>s
 |f::fs,s=>aU lim fs { s with rd:=below lim f.rd s.rd,wr:=below lim f.wr s.wr }
def iq (ops:List Oper) (l:List (Nat×Nat)):Bool:=Gs ops l&&qI 0 ops
def ga (ev:ke) (lim:Nat) (ops:List Oper) (m:Tm) (s:HS):bw Tm:=
 cond (iq ops (a_ (aY [] ops) ops.length))
  (bT (jg P O ev ops ops m s.heap s.next) fun x s'=>
   cond (dU x.2 (a_ (aY [] ops) ops.length))
    (.ok x.1 (cond (Nat.beq lim 0) ⟨s'.heap,s'.next,s.rd,s.wr⟩ (aU lim x.2 ⟨s'.heap,s'.next,s.rd,s.wr⟩)))
    (.fail "operations whose order is open touch one block"))
  (.fail "operations whose order is open share a slot")
def uh (ro:Option Nat) (m:Tm) (ps:List Tmp) (assign body:Code):AP (Nat×List Nat):=
 match ro with
 |some l₀ => .get l₀ fun
  | .loop .. => .new (.loop .ready none m ps assign body) fun l => .pure (l,m.gD)
  | _ => .fail "range round"
 |none => .new .deferred fun d => .new (.loop .ready none m ps assign body) fun l => .pure (l,d::m.gD)
def oq (l:Nat):AP bJ:=
 .get l fun
  | .loop st ig tm ps as bd=>match st with
   | .busy => .fail "range busy"
   | _=>match ig with
    |none => .set l (.loop .exhausted none tm ps as bd) (.pure .normal)
    |some .ret => .set l (.loop .exhausted (some .ret) tm ps as bd) (.pure .ret)
    |some (.exit id) => .set l (.loop .exhausted (some (.exit id)) tm ps as bd) (.pure (.exit id))
    |some _ => .fail "range jump"
  | _ => .fail "range loop"
def gW (x:Value) (l:Nat):AP (FuncId×List Value):=
 match x with
 | .func fn first captured=>(fI P fn captured.toList (first.toList++[.func (.yield l) ⟨[]⟩ ⟨[]⟩])).bind fun
  | .enter f args => .pure (f,args)
  | _ => .fail "range callee"
 | _ => .fail "range nil function"
def fQ (ev:ke) (ro:Option Nat) (lim:Nat) (g:Operand) (ps:List Tmp) (assign body:Code) (m:Tm) (s:HS):bw (bJ×Tm):=
 cond (bt g)
  (bT ((uh ro m ps assign body).run lim s) fun ld s=>
   bT ((gW P (m.eval g) ld.1).run lim s) fun fa s=>
    bT (fD P O ev lim fa.1 fa.2 s) fun _ s=>
     bT ((oq ld.1).run lim s) fun x s => .ok (x,{ m with gD:=ld.2 }) s)
  (.fail "range operand")
def bD (ev:ke):ke:=fun ro lim c m s=>
 match c with
 | .skip | .label _ => .ok (.normal,m) s
 | .region _ ops draw=>bT (cond draw (ga P O ev lim ops.toList m s) (bX P O ev lim ops.toList ops.toList m s)) fun m s => .ok (.normal,m) s
 | .seq a b=>bT (ev ro lim a m s) fun x s=>match x.1 with
  | .normal=>ev ro lim b x.2 s
  | _ => .ok x s
 | .cond c a b=>cond (bt c) (match m.eval c with
  | .bool true=>ev ro lim a m s
  | .bool false=>ev ro lim b m s
  | _ => .fail "cond") (.fail "cond")
 | .block id c=>bT (ev ro lim c m s) fun x s=>match x.1 with
  | .exit i => .ok (cond (Nat.beq i id) .normal (.exit i),x.2) s
  | _ => .ok x s
 | .loop c=>bT (ev ro lim c m s) fun x s=>match x.1 with
  | .normal=>ev ro lim (.loop c) x.2 s
  | _ => .ok x s
 | .exit id => .ok (.exit id,m) s
 | .scope c=>ev ro lim c m s
 | .ret => .ok (.ret,m) s
 | .rangeFunc g ps assign body=>fQ P O ev ro lim g ps.toList assign body m s
 | _ => .fail "code"
def kX:Nat→ke:=fun n=>Nat.rec (fun _ _ _ _ _ => .fail "fuel") (fun _ ev=>bD P O ev) n
def uj:HS:=⟨.leaf,0,[],[]⟩
def isTrue:bw Value→Bool
 | .ok (.bool true) _=>true
 | _=>false
def qJ (fuel:Nat) (f:FuncId):Bool:=isTrue (fD P O (kX P O fuel) 0 f [] uj)
end Go.Am
