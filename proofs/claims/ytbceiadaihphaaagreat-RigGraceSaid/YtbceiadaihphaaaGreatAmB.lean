/-
  The abstract machine: frames, regions, code.
-/
import Derived.Test.YtbceiadaihphaaaGreatAmA
namespace Go.Am
abbrev Over := FuncId → List Value → Option (AP Value)
variable (P : Program) (O : Over)
def undefV : Value := .tuple ⟨[]⟩
def Tm.get (m : Tm) (i : Nat) : Value := match m.t.get i with | some v => v | none => undefV
def Tm.eval (m : Tm) : Operand → Value
 | .tmp i => m.get i
 | .const v => v
 | .global g => .pointer (some ⟨g, 0, none⟩)
 | .func f => .func (.func f) ⟨[]⟩ ⟨[]⟩
def opFlat : Operand → Bool
 | .const v => flat 4 v
 | .global _ => false
 | _ => true
def yieldedA (ops : List Oper) (m : Tm) (j : Nat) : Option Bool :=
 match ops[j]? with
 | some o => match o.dst with
  | some d => match m.get d with
   | .bool b => some b
   | _ => none
  | none => none
 | none => none
def wantedA (ops : List Oper) (m : Tm) (o : Oper) : Bool :=
 match o.guard with
 | none => true
 | some (j, want) => match yieldedA ops m j with
  | some b => b == want
  | none => false
inductive AExit where
 | normal
 | exit (id : Nat)
 | ret
 deriving Inhabited
def bnd {α β : Type} (r : Res α) (k : α → HS → Res β) : Res β :=
 match r with
 | .ok a s => k a s
 | .fail w => .fail w
abbrev EvT := Option Nat → Nat → Code → Tm → HS → Res (AExit × Tm)
def resultsA (lim : Nat) (m : Tm) : List ResultVar → HS → Res (List Value)
 | [], s => .ok [] s
 | .tmp t :: r, s => bnd (resultsA lim m r s) fun l s => .ok (m.get t :: l) s
 | .cell a t :: r, s => bnd ((aLoad P t (m.get a)).run lim s) fun v s => bnd (resultsA lim m r s) fun l s => .ok (v :: l) s
def takeDef (d : Nat) : AP Unit :=
 .get d fun
  | .deferred => .kill d (.pure ())
  | _ => .fail "deferred"
def takeDfs (lim : Nat) : List Nat → HS → Res Unit
 | [], s => .ok () s
 | d :: r, s => bnd ((takeDef d).run lim s) fun _ s => takeDfs lim r s
def oneOf : List Value → Value
 | [v] => v
 | l => .tuple ⟨l⟩
def afterA (lim : Nat) (rs : List ResultVar) (x : AExit × Tm) (s : HS) : Res Value :=
 match x.1 with
 | .exit _ => .fail "exit out of a body"
 | _ => bnd (takeDfs lim x.2.dfs s) fun _ s => bnd (resultsA P lim x.2 rs s) fun l s => .ok (oneOf l) s
def bodyA (ev : EvT) (lim : Nat) (f : FuncId) (args : List Value) (s : HS) : Res Value :=
 match P.funcs[f]? with
 | some fn => match fn.body with
  | some c => bnd (ev none lim c ⟨args.length + (fn.ntmps - args.length), PT.ofList .leaf 0 args, []⟩ s) fun x s => afterA P lim fn.results.toList x s
  | none => .fail "no body"
 | none => .fail "no function"
def callA (ev : EvT) (lim : Nat) (f : FuncId) (args : List Value) (s : HS) : Res Value :=
 match O f args with
 | some m => m.run lim s
 | none => bodyA P ev lim f args s
def loopBegin (l : Nat) : AP Unit :=
 .get l fun
  | .loop .ready pend tm ps as bd => .set l (.loop .busy pend tm ps as bd) (.pure ())
  | _ => .fail "round not ready"
def loopEnd (l : Nat) (jump : Option Code) : AP Value :=
 .get l fun
  | .loop _ _ tm ps as bd => .set l (.loop (cond jump.isNone .ready .done) jump tm ps as bd) (.pure (.bool jump.isNone))
  | _ => .fail "round loop"
def exitCode : AExit → Option Code
 | .normal => none
 | .ret => some .ret
 | .exit id => some (.exit id)
def roundA (ev : EvT) (lim : Nat) (l : Nat) (m : Tm) (as bd : Code) (s : HS) : Res Value :=
 bnd (ev (some l) lim as m s) fun x s => match x.1 with
  | .normal => bnd ((loopBegin l).run lim s) fun _ s => bnd (ev (some l) lim bd x.2 s) fun y s => (loopEnd l (exitCode y.1)).run lim s
  | _ => .fail "round assignment"
def nextA (ev : EvT) (lim : Nat) (x : ANext) (s : HS) : Res Value :=
 match x with
 | .value v => .ok v s
 | .skip => .ok undefV s
 | .enter f args => callA P O ev lim f args s
 | .round l m as bd => roundA ev lim l m as bd s
def valA (ev : EvT) (lim : Nat) (ρ : Operand → Value) (o : Oper) (s : HS) : Res Value :=
 cond (o.op.operands.toList.all opFlat) (bnd ((aOp P ρ o).run lim s) fun x s => nextA P O ev lim x s) (.fail "an address among the constants")
def putA (m : Tm) (d : Option Nat) (v : Value) (s : HS) : Res Tm := match m.put d v with | some m => .ok m s | none => .fail "slot"
def opA (ev : EvT) (lim : Nat) (ops : List Oper) (o : Oper) (m : Tm) (s : HS) : Res Tm :=
 bnd (cond (wantedA ops m o) (valA P O ev lim m.eval o s) (.ok undefV s)) fun v s => putA m o.dst v s
def opsA (ev : EvT) (lim : Nat) (ops : List Oper) : List Oper → Tm → HS → Res Tm
 | [], m, s => .ok m s
 | o :: r, m, s => bnd (opA P O ev lim ops o m s) fun m s => opsA ev lim ops r m s
structure Foot where
 lo : Nat
 hi : Nat
 rd : List Nat
 wr : List Nat
def opsF (ev : EvT) (ops : List Oper) : List Oper → Tm → PT ABlk → Nat → Res (Tm × List Foot)
 | [], m, h, n => .ok (m, []) ⟨h, n, [], []⟩
 | o :: r, m, h, n => bnd (opA P O ev n ops o m ⟨h, n, [], []⟩) fun m s => bnd (opsF ev ops r m s.heap s.next) fun x s' => .ok (x.1, ⟨n, s.next, s.rd, s.wr⟩ :: x.2) s'
def maskOf (acc : List Nat) : List Edge → Nat
 | [] => 0
 | e :: r => cond (Region.binds .any e) (Nat.lor (Nat.lor (Nat.pow 2 e.on) (acc.getD e.on 0)) (maskOf acc r)) (maskOf acc r)
def ancestors : List Nat → List Oper → List Nat
 | acc, [] => acc
 | acc, o :: r => ancestors (acc ++ [maskOf acc o.after.toList]) r
def edgesOk : Nat → List Oper → Bool
 | _, [] => true
 | i, o :: r => o.after.toList.all (fun e => !Region.binds .any e || Nat.blt e.on i) && edgesOk (Nat.succ i) r
def loosePairs (anc : List Nat) : Nat → List (Nat × Nat)
 | 0 => []
 | j + 1 => loosePairs anc j ++ ((List.range j).filter fun i => !(anc.getD j 0).testBit i).map fun i => (i, j)
def looseOk (ops : List Oper) (l : List (Nat × Nat)) : Bool :=
 l.all fun p => Oper.apart ⟨ops⟩ (ops.getD p.1 default) (ops.getD p.2 default)
def meets (a b : List Nat) : Bool := a.any fun x => b.any (Nat.beq x)
def meetsRange (a : List Nat) (lo hi : Nat) : Bool := a.any fun x => Nat.ble lo x && Nat.blt x hi
def clash (f g : Foot) : Bool :=
 meets f.wr g.wr || meets f.wr g.rd || meets f.rd g.wr || meetsRange g.rd f.lo f.hi || meetsRange g.wr f.lo f.hi
def footsOk (fs : List Foot) (l : List (Nat × Nat)) : Bool :=
 l.all fun p => match fs[p.1]?, fs[p.2]? with
  | some f, some g => !clash f g
  | _, _ => false
def below (lim : Nat) : List Nat → List Nat → List Nat
 | [], acc => acc
 | x :: r, acc => below lim r (cond (Nat.blt x lim) (ins x acc) acc)
def mergeFoots (lim : Nat) : List Foot → HS → HS
 | [], s => s
 | f :: fs, s => mergeFoots lim fs { s with rd := below lim f.rd s.rd, wr := below lim f.wr s.wr }
def drawOk (ops : List Oper) (l : List (Nat × Nat)) : Bool := looseOk ops l && edgesOk 0 ops
def drawA (ev : EvT) (lim : Nat) (ops : List Oper) (m : Tm) (s : HS) : Res Tm :=
 cond (drawOk ops (loosePairs (ancestors [] ops) ops.length))
  (bnd (opsF P O ev ops ops m s.heap s.next) fun x s' =>
   cond (footsOk x.2 (loosePairs (ancestors [] ops) ops.length))
    (.ok x.1 (cond (Nat.beq lim 0) ⟨s'.heap, s'.next, s.rd, s.wr⟩ (mergeFoots lim x.2 ⟨s'.heap, s'.next, s.rd, s.wr⟩)))
    (.fail "operations whose order is open touch one block"))
  (.fail "operations whose order is open share a slot")
def enterA (ro : Option Nat) (m : Tm) (ps : List Tmp) (assign body : Code) : AP (Nat × List Nat) :=
 match ro with
 | some l₀ => .get l₀ fun
  | .loop .. => .new (.loop .ready none m ps assign body) fun l => .pure (l, m.dfs)
  | _ => .fail "range round"
 | none => .new .deferred fun d => .new (.loop .ready none m ps assign body) fun l => .pure (l, d :: m.dfs)
def loopExit (l : Nat) : AP AExit :=
 .get l fun
  | .loop st pend tm ps as bd => match st with
   | .busy => .fail "range busy"
   | _ => match pend with
    | none => .set l (.loop .exhausted none tm ps as bd) (.pure .normal)
    | some .ret => .set l (.loop .exhausted (some .ret) tm ps as bd) (.pure .ret)
    | some (.exit id) => .set l (.loop .exhausted (some (.exit id)) tm ps as bd) (.pure (.exit id))
    | some _ => .fail "range jump"
  | _ => .fail "range loop"
def rangeCallee (x : Value) (l : Nat) : AP (FuncId × List Value) :=
 match x with
 | .func fn first captured => (aInvoke P fn captured.toList (first.toList ++ [.func (.yield l) ⟨[]⟩ ⟨[]⟩])).bind fun
  | .enter f args => .pure (f, args)
  | _ => .fail "range callee"
 | _ => .fail "range nil function"
def rangeA (ev : EvT) (ro : Option Nat) (lim : Nat) (g : Operand) (ps : List Tmp) (assign body : Code) (m : Tm) (s : HS) : Res (AExit × Tm) :=
 cond (opFlat g)
  (bnd ((enterA ro m ps assign body).run lim s) fun ld s =>
   bnd ((rangeCallee P (m.eval g) ld.1).run lim s) fun fa s =>
    bnd (callA P O ev lim fa.1 fa.2 s) fun _ s =>
     bnd ((loopExit ld.1).run lim s) fun x s => .ok (x, { m with dfs := ld.2 }) s)
  (.fail "range operand")
def stepC (ev : EvT) : EvT := fun ro lim c m s =>
 match c with
 | .skip | .label _ => .ok (.normal, m) s
 | .region _ ops draw => bnd (cond draw (drawA P O ev lim ops.toList m s) (opsA P O ev lim ops.toList ops.toList m s)) fun m s => .ok (.normal, m) s
 | .seq a b => bnd (ev ro lim a m s) fun x s => match x.1 with
  | .normal => ev ro lim b x.2 s
  | _ => .ok x s
 | .cond c a b => cond (opFlat c) (match m.eval c with
  | .bool true => ev ro lim a m s
  | .bool false => ev ro lim b m s
  | _ => .fail "cond") (.fail "cond")
 | .block id c => bnd (ev ro lim c m s) fun x s => match x.1 with
  | .exit i => .ok (cond (Nat.beq i id) .normal (.exit i), x.2) s
  | _ => .ok x s
 | .loop c => bnd (ev ro lim c m s) fun x s => match x.1 with
  | .normal => ev ro lim (.loop c) x.2 s
  | _ => .ok x s
 | .exit id => .ok (.exit id, m) s
 | .scope c => ev ro lim c m s
 | .ret => .ok (.ret, m) s
 | .rangeFunc g ps assign body => rangeA P O ev ro lim g ps.toList assign body m s
 | _ => .fail "code"
def evC : Nat → EvT := fun n => Nat.rec (fun _ _ _ _ _ => .fail "fuel") (fun _ ev => stepC P O ev) n
def startHS : HS := ⟨.leaf, 0, [], []⟩
def isTrue : Res Value → Bool
 | .ok (.bool true) _ => true
 | _ => false
def lawTrue (fuel : Nat) (f : FuncId) : Bool := isTrue (callA P O (evC P O fuel) 0 f [] startHS)
end Go.Am
