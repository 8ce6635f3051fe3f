/-
  The abstract machine: frames, regions, code.
-/
import Derived.Test.YtfhmopghjoeamaaGreatAmA
namespace Go.Am
abbrev Over:=FuncId→List Value→Option (AP Value)
variable (P:Program) (O:Over)
def fW:Value := .tuple ⟨[]⟩
def Tm.get (m:Tm) (i:Nat):Value:=match m.t.get i with |some v=>v |none=>fW
def Tm.eval (m:Tm):Operand→Value
 | .tmp i=>m.get i
 | .const v=>v
 | .global g => .pointer (some ⟨g,0,none⟩)
 | .func f => .func (.func f) ⟨[]⟩ ⟨[]⟩
def aW:Operand→Bool
 | .const v=>flat 4 v
 | .global _=>false
 | _=>true
def eO (ops:List Oper) (m:Tm) (j:Nat):Option Bool:=
 match ops[j]? with
 |some o=>match o.dst with
  |some d=>match m.get d with
   | .bool b=>some b
   | _=>none
  |none=>none
 |none=>none
def bM (ops:List Oper) (m:Tm) (o:Oper):Bool:=
 match o.guard with
 |none=>true
 |some (j,want)=>match eO ops m j with
  |some b=>b==want
  |none=>false
inductive bp where
 |normal
 |exit (id:Nat)
 |ret
 deriving Inhabited
def bz {α β:Type} (r:aS α) (k:α→HS→aS β):aS β:=
 match r with
 | .ok a s=>k a s
 | .fail w => .fail w
abbrev iA:=Option Nat→Nat→Code→Tm→HS→aS (bp×Tm)
def bP (lim:Nat) (m:Tm):List ResultVar→HS→aS (List Value)
 | [],s => .ok [] s
 | .tmp t::r,s=>bz (bP lim m r s) fun l s => .ok (m.get t::l) s
 | .cell a t::r,s=>bz ((dN P t (m.get a)).run lim s) fun v s=>bz (bP lim m r s) fun l s => .ok (v::l) s
def kI (d:Nat):AP Unit:=
 .get d fun
  | .deferred => .kill d (.pure ())
  | _ => .fail "deferred"
def dF (lim:Nat):List Nat→HS→aS Unit
 | [],s => .ok () s
 |d::r,s=>bz ((kI d).run lim s) fun _ s=>dF lim r s
def oneOf:List Value→Value
 | [v]=>v
 |l => .tuple ⟨l⟩
def gK (lim:Nat) (rs:List ResultVar) (x:bp×Tm) (s:HS):aS Value:=
 match x.1 with
 | .exit _ => .fail "exit out of a body"
 | _=>bz (dF lim x.2.gn s) fun _ s=>bz (bP P lim x.2 rs s) fun l s => .ok (oneOf l) s
def eP (ev:iA) (lim:Nat) (f:FuncId) (args:List Value) (s:HS):aS Value:=
 match P.funcs[f]? with
 |some fn=>match fn.body with
  |some c=>bz (ev none lim c ⟨args.length+(fn.ntmps-args.length),PT.ofList .leaf 0 args,[]⟩ s) fun x s=>gK P lim fn.results.toList x s
  |none => .fail "no body"
 |none => .fail "no function"
def dO (ev:iA) (lim:Nat) (f:FuncId) (args:List Value) (s:HS):aS Value:=
 match O f args with
 |some m=>m.run lim s
 |none=>eP P ev lim f args s
def lD (l:Nat):AP Unit:=
 .get l fun
  | .loop .ready eM tm ps as bd => .set l (.loop .busy eM tm ps as bd) (.pure ())
  | _ => .fail "round not ready"
def ql (l:Nat) (jump:Option Code):AP Value:=
 .get l fun
  | .loop _ _ tm ps as bd => .set l (.loop (cond jump.isNone .ready .done) jump tm ps as bd) (.pure (.bool jump.isNone))
  | _ => .fail "round loop"
def exitCode:bp→Option Code
 | .normal=>none
 | .ret=>some .ret
 | .exit id=>some (.exit id)
def dU (ev:iA) (lim:Nat) (l:Nat) (m:Tm) (as bd:Code) (s:HS):aS Value:=
 bz (ev (some l) lim as m s) fun x s=>match x.1 with
  | .normal=>bz ((lD l).run lim s) fun _ s=>bz (ev (some l) lim bd x.2 s) fun y s=>(ql l (exitCode y.1)).run lim s
  | _ => .fail "round assignment"
def ep (ev:iA) (lim:Nat) (x:aC) (s:HS):aS Value:=
 match x with
 | .value v => .ok v s
 | .skip => .ok fW s
 | .enter f args=>dO P O ev lim f args s
 | .round l m as bd=>dU ev lim l m as bd s
def gS (ev:iA) (lim:Nat) (ρ:Operand→Value) (o:Oper) (s:HS):aS Value:=
 cond (o.op.operands.toList.all aW) (bz ((gO P ρ o).run lim s) fun x s=>ep P O ev lim x s) (.fail "an address among the constants")
def gT (m:Tm) (d:Option Nat) (v:Value) (s:HS):aS Tm:=match m.put d v with |some m => .ok m s |none => .fail "slot"
def kE (ev:iA) (lim:Nat) (ops:List Oper) (o:Oper) (m:Tm) (s:HS):aS Tm:=
 bz (cond (bM ops m o) (gS P O ev lim m.eval o s) (.ok fW s)) fun v s=>gT m o.dst v s
def gp (ev:iA) (lim:Nat) (ops:List Oper):List Oper→Tm→HS→aS Tm
 | [],m,s => .ok m s
 |o::r,m,s=>bz (kE P O ev lim ops o m s) fun m s=>gp ev lim ops r m s
structure bD where
 lo:Nat
 hi:Nat
 rd:List Nat
 wr:List Nat
def gq (ev:iA) (ops:List Oper):List Oper→Tm→PT ak→Nat→aS (Tm×List bD)
 | [],m,h,n => .ok (m,[]) ⟨h,n,[],[]⟩
 |o::r,m,h,n=>bz (kE P O ev n ops o m ⟨h,n,[],[]⟩) fun m s=>bz (gq ev ops r m s.heap s.next) fun x s' => .ok (x.1,⟨n,s.next,s.rd,s.wr⟩::x.2) s'
def fX (acc:List Nat):List Edge→Nat
 | []=>0
 |e::r=>cond (Region.binds .any e) (Nat.lor (Nat.lor (Nat.pow 2 e.on) (acc.getD e.on 0)) (fX acc r)) (fX acc r)
def aM:List Nat→List Oper→List Nat
 |acc,[]=>acc
 |acc,o::r=>aM (acc++[fX acc o.after.toList]) r
def ng:Nat→List Oper→Bool
 | _,[]=>true
 |i,o::r=>o.after.toList.all (fun e => !Region.binds .any e||Nat.blt e.on i)&&ng (Nat.succ i) r
def aO (HO:List Nat):Nat→List (Nat×Nat)
 |0=>[]
 |j+1=>aO HO j++((List.range j).filter fun i => !(HO.getD j 0).testBit i).map fun i=>(i,j)
def Bw (ops:List Oper) (l:List (Nat×Nat)):Bool:=
 l.all fun p=>Oper.apart ⟨ops⟩ (ops.getD p.1 default) (ops.getD p.2 default)
def meets (a b:List Nat):Bool:=a.any fun x=>b.any (Nat.beq x)
def bt (a:List Nat) (lo hi:Nat):Bool:=a.any fun x=>Nat.ble lo x&&Nat.blt x hi
def gx (f g:bD):Bool:=
 meets f.wr g.wr||meets f.wr g.rd||meets f.rd g.wr||bt g.rd f.lo f.hi||bt g.wr f.lo f.hi
def cB (fs:List bD) (l:List (Nat×Nat)):Bool:=
 l.all fun p=>match fs[p.1]?,fs[p.2]? with
  |some f,some g => !gx f g
  | _,_=>false
def below (lim:Nat):List Nat→List Nat→List Nat
 | [],acc=>acc
 |x::r,acc=>below lim r (cond (Nat.blt x lim) (ins x acc) acc)
def aK (lim:Nat):List bD→HS→HS
 | [],s=>s
 |f::fs,s=>aK lim fs { s with rd:=below lim f.rd s.rd,wr:=below lim f.wr s.wr }
def fY (ops:List Oper) (l:List (Nat×Nat)):Bool:=Bw ops l&&ng 0 ops
def dV (ev:iA) (lim:Nat) (ops:List Oper) (m:Tm) (s:HS):aS Tm:=
 cond (fY ops (aO (aM [] ops) ops.length))
  (bz (gq P O ev ops ops m s.heap s.next) fun x s'=>
   cond (cB x.2 (aO (aM [] ops) ops.length))
    (.ok x.1 (cond (Nat.beq lim 0) ⟨s'.heap,s'.next,s.rd,s.wr⟩ (aK lim x.2 ⟨s'.heap,s'.next,s.rd,s.wr⟩)))
    (.fail "operations whose order is open touch one block"))
  (.fail "operations whose order is open share a slot")
def t_ (ro:Option Nat) (m:Tm) (ps:List Tmp) (assign body:Code):AP (Nat×List Nat):=
 match ro with
 |some l₀ => .get l₀ fun
  | .loop .. => .new (.loop .ready none m ps assign body) fun l => .pure (l,m.gn)
  | _ => .fail "range round"
 |none => .new .deferred fun d => .new (.loop .ready none m ps assign body) fun l => .pure (l,d::m.gn)
def nI (l:Nat):AP bp:=
 .get l fun
  | .loop st eM tm ps as bd=>match st with
   | .busy => .fail "range busy"
   | _=>match eM with
    |none => .set l (.loop .exhausted none tm ps as bd) (.pure .normal)
    |some .ret => .set l (.loop .exhausted (some .ret) tm ps as bd) (.pure .ret)
    |some (.exit id) => .set l (.loop .exhausted (some (.exit id)) tm ps as bd) (.pure (.exit id))
    |some _ => .fail "range jump"
  | _ => .fail "range loop"
def gy (x:Value) (l:Nat):AP (FuncId×List Value):=
 match x with
 | .func fn first captured=>(fE P fn captured.toList (first.toList++[.func (.yield l) ⟨[]⟩ ⟨[]⟩])).bind fun
  | .enter f args => .pure (f,args)
  | _ => .fail "range callee"
 | _ => .fail "range nil function"
def dW (ev:iA) (ro:Option Nat) (lim:Nat) (g:Operand) (ps:List Tmp) (assign body:Code) (m:Tm) (s:HS):aS (bp×Tm):=
 cond (aW g)
  (bz ((t_ ro m ps assign body).run lim s) fun ld s=>
   bz ((gy P (m.eval g) ld.1).run lim s) fun fa s=>
    bz (dO P O ev lim fa.1 fa.2 s) fun _ s=>
     bz ((nI ld.1).run lim s) fun x s => .ok (x,{ m with gn:=ld.2 }) s)
  (.fail "range operand")
def a_ (ev:iA):iA:=fun ro lim c m s=>
 match c with
 | .skip | .label _ => .ok (.normal,m) s
 | .region _ ops draw=>bz (cond draw (dV P O ev lim ops.toList m s) (gp P O ev lim ops.toList ops.toList m s)) fun m s => .ok (.normal,m) s
 | .seq a b=>bz (ev ro lim a m s) fun x s=>match x.1 with
  | .normal=>ev ro lim b x.2 s
  | _ => .ok x s
 | .cond c a b=>cond (aW c) (match m.eval c with
  | .bool true=>ev ro lim a m s
  | .bool false=>ev ro lim b m s
  | _ => .fail "cond") (.fail "cond")
 | .block id c=>bz (ev ro lim c m s) fun x s=>match x.1 with
  | .exit i => .ok (cond (Nat.beq i id) .normal (.exit i),x.2) s
  | _ => .ok x s
 | .loop c=>bz (ev ro lim c m s) fun x s=>match x.1 with
  | .normal=>ev ro lim (.loop c) x.2 s
  | _ => .ok x s
 | .exit id => .ok (.exit id,m) s
 | .scope c=>ev ro lim c m s
 | .ret => .ok (.ret,m) s
 | .rangeFunc g ps assign body=>dW P O ev ro lim g ps.toList assign body m s
 | _ => .fail "code"
def jg:Nat→iA:=fun n=>Nat.rec (fun _ _ _ _ _ => .fail "fuel") (fun _ ev=>a_ P O ev) n
def qm:HS:=⟨.leaf,0,[],[]⟩
def isTrue:aS Value→Bool
 | .ok (.bool true) _=>true
 | _=>false
def qn (fuel:Nat) (f:FuncId):Bool:=isTrue (dO P O (jg P O fuel) 0 f [] qm)
end Go.Am
