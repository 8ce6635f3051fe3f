/-
  The abstract machine, definitions: a deterministic, fuel-bounded evaluator of the model's code over an abstract heap. Blocks are named by numbers of its own; a row that append made has no known capacity. Proofs: the later texts.
-/
import GoSem.Core.Machine
import GoSem.Machine.Frame
import Derived.Calls
import Derived.Orders
namespace Go.Am
inductive PT (α:Type) where
 |leaf
 |node (l:PT α) (v:Option α) (r:PT α)
def bits:Nat→Nat→List Bool
 |0,_=>[]
 |f+1,n=>cond (Nat.beq n 0) [] (Nat.beq (Nat.mod n 2) 1::bits f (Nat.div n 2))
def PT.fR {α:Type}:List Bool→PT α→Option α
 | _,.leaf=>none
 | [],.node _ v _=>v
 |b::k,.node l _ r=>cond b (PT.fR k r) (PT.fR k l)
def PT.bY {α:Type}:List Bool→Option α→PT α→PT α
 | [],v,.leaf => .node .leaf v .leaf
 | [],v,.node l _ r => .node l v r
 |b::k,v,.leaf=>cond b (.node .leaf none (PT.bY k v .leaf)) (.node (PT.bY k v .leaf) none .leaf)
 |b::k,v,.node l u r=>cond b (.node l u (PT.bY k v r)) (.node (PT.bY k v l) u r)
def PT.get {α:Type} (t:PT α) (n:Nat):Option α:=t.fR (bits n n)
def PT.set {α:Type} (t:PT α) (n:Nat) (v:Option α):PT α:=t.bY (bits n n) v
def PT.ofList {α:Type} (t:PT α) (off:Nat):List α→PT α
 | []=>t
 |v::vs=>PT.ofList (t.set off (some v)) (off+1) vs
structure Tm where
 n:Nat
 t:PT Value
 gn:List Nat
def Tm.put (m:Tm) (d:Option Nat) (v:Value):Option Tm:=
 match d with
 |none=>some m
 |some i=>cond (Nat.blt i m.n) (some { m with t:=m.t.set i (some v) }) none
def dD:List Tmp→List Value→Tm→Option Tm
 |d::ds,v::vs,m=>match m.put (some d) v with
  |some m=>dD ds vs m
  |none=>none
 | [],[],m=>some m
 | _,_,_=>none
inductive ak where
 |cells (c:PT Value) (ro:Bool)
 |map (es:List (Value×Value×Nat)) (clk:Nat)
 |iter (m:Option Nat) (since:Nat) (seen:List Nat) (stepped:Nat)
 |loop (st:LoopState) (eM:Option Code) (tm:Tm) (ps:List Tmp) (assign body:Code)
 |deferred
inductive AP (α:Type) where
 |pure (a:α)
 |fail (why:String)
 |get (id:Nat) (k:ak→AP α)
 |set (id:Nat) (b:ak) (k:AP α)
 |kill (id:Nat) (k:AP α)
 |new (b:ak) (k:Nat→AP α)
structure HS where
 heap:PT ak
 next:Nat
 rd:List Nat
 wr:List Nat
inductive aS (α:Type) where
 |fail (why:String)
 |ok (a:α) (s:HS)
def ins (n:Nat) (l:List Nat):List Nat:=cond (l.any (Nat.beq n)) l (n::l)
def AP.run {α:Type} (lim:Nat):AP α→HS→aS α
 | .pure a,s => .ok a s
 | .fail why,_ => .fail why
 | .get id k,s=>match s.heap.get id with
  |none => .fail "get"
  |some b=>(k b).run lim (cond (Nat.blt id lim) { s with rd:=ins id s.rd } s)
 | .set id b k,s=>match s.heap.get id with
  |none => .fail "set"
  |some _=>k.run lim (cond (Nat.blt id lim) { s with heap:=s.heap.set id (some b),wr:=ins id s.wr } { s with heap:=s.heap.set id (some b) })
 | .kill id k,s=>match s.heap.get id with
  |none => .fail "kill"
  |some _=>k.run lim (cond (Nat.blt id lim) { s with heap:=s.heap.set id none,wr:=ins id s.wr } { s with heap:=s.heap.set id none })
 | .new b k,s=>(k s.next).run lim { s with heap:=s.heap.set s.next (some b),next:=Nat.succ s.next }
def AP.bind {α β:Type}:AP α→(α→AP β)→AP β
 | .pure a,f=>f a
 | .fail w,_ => .fail w
 | .get id k,f => .get id fun b=>(k b).bind f
 | .set id b k,f => .set id b (k.bind f)
 | .kill id k,f => .kill id (k.bind f)
 | .new b k,f => .new b fun i=>(k i).bind f
instance:Monad AP where
 pure:=AP.pure
 bind:=AP.bind
def AP.opt {α β:Type} (why:String) (o:Option α) (k:α→AP β):AP β:=match o with |some a=>k a |none => .fail why
def az:Nat:=4611686018427387904
def isAgg:TypeDesc→Bool
 | .struct _ | .array _ _=>true
 | _=>false
def aP (c:PT Value) (off:Nat):Nat→Option (List Value)
 |0=>some []
 |n+1=>match c.get off with
  |none=>none
  |some v=>match aP c (Nat.succ off) n with
   |none=>none
   |some l=>some (v::l)
def bh:Value→Bool
 | .agg _ | .tuple _=>false
 | _=>true
def bB (c:PT Value) (off:Nat):List Value→Option (PT Value)
 | []=>some c
 |v::vs=>match c.get off with
  |none=>none
  |some _=>cond (bh v) (bB (c.set off (some v)) (Nat.succ off) vs) none
def flat:Nat→Value→Bool
 | _,.bool _ | _,.int _ _ | _,.float _ _ | _,.complex _ _ _ | _,.string _ | _,.pointer none | _,.slice none _ _ | _,.map none | _,.chan none | _,.nilFunc | _,.nilIface=>true
 |n+1,.agg cs=>cs.toList.all (flat n)
 |n+1,.tuple cs=>cs.toList.all (flat n)
 |n+1,.iface _ v=>flat n v
 | _,.func (.func _) ⟨[]⟩ ⟨[]⟩=>true
 | _,_=>false
variable (P:Program)
def dN (t:TypeId) (x:Value):AP Value:=
 match x,P.info? t,P.underlying t with
 | .pointer (some a),some i,some d => .get a.block fun
  | .cells c _=>cond (isAgg d)
    (match aP c a.off i.size with |some l => .pure (.agg ⟨l⟩) |none => .fail "load")
    (match c.get a.off with |some v => .pure v |none => .fail "load")
  | _ => .fail "load"
 | _,_,_ => .fail "load"
def nB (t:TypeId) (x v:Value):AP Unit:=
 match x,P.info? t with
 | .pointer (some a),some i=>
  cond (Nat.beq v.cells.toList.length i.size) (.get a.block fun
   | .cells c false=>match bB c a.off v.cells.toList with
    |some c' => .set a.block (.cells c' false) (.pure ())
    |none => .fail "store"
   | _ => .fail "store") (.fail "store")
 | _,_ => .fail "store"
def newRow (l:List Value):AP Value := .new (.cells (PT.ofList .leaf 0 l) false) fun id => .pure (.pointer (some ⟨id,0,none⟩))
def zeroOf (t:TypeId):Option Value:=
 match P.info? t with
 |some i=>match i.zero with
  |some z=>cond (flat 4 z) (some z) none
  |none=>none
 |none=>none
def nC (t:TypeId):AP Value:=
 match zeroOf P t with
 |some z=>newRow z.cells.toList
 |none => .fail "alloc"
def cC (l:List Value) (off:Nat) (vs:List Value):List Value:=l.take off++vs++l.drop (off+vs.length)
def dQ (place:Nat→Option (Nat×Nat)) (cells:List Value):List (Nat×Value)→Option (List Value)
 | []=>some cells
 | (i,v)::rest=>match place i with
  |none=>none
  |some (off,size)=>
   cond (Nat.beq v.cells.toList.length size&&Nat.ble (off+v.cells.toList.length) cells.length) (dQ place (cC cells off v.cells.toList) rest) none
def cD (fs:List Field):Option (List (Nat×Nat)):=
 match fs with
 | []=>some []
 |f::r=>match P.info? f.type,cD r with
  |some i,some l=>some ((f.offset,i.size)::l)
  | _,_=>none
def nD (t:TypeId) (parts:List (Nat×Value)):AP Value:=
 match zeroOf P t,P.underlying t with
 |some z,some (.struct fs)=>match cD P fs.toList with
  |some ps=>match dQ (ps[·]?) z.cells.toList parts with
   |some l => .pure (.agg ⟨l⟩)
   |none => .fail "build"
  |none => .fail "build"
 |some z,some (.array _ e)=>match P.info? e with
  |some i=>match dQ (fun j=>some (j*i.size,i.size)) z.cells.toList parts with
   |some l => .pure (.agg ⟨l⟩)
   |none => .fail "build"
  |none => .fail "build"
 | _,_ => .fail "build"
def rep (z:List Value):Nat→List Value
 |0=>[]
 |n+1=>z++rep z n
def eN (t:TypeId) (len:Nat) (parts:List (Nat×Value)):AP Value:=
 match P.underlying t with
 |some (.slice e)=>match P.info? e,zeroOf P e with
  |some i,some z=>
   cond (Nat.ble (len*i.size) 16777216&&Nat.beq z.cells.toList.length i.size&&Nat.blt 0 i.size)
    (match dQ (fun j=>some (j*i.size,i.size)) (rep z.cells.toList len) parts with
     |some l => .new (.cells (PT.ofList .leaf 0 l) false) fun id => .pure (.slice (some ⟨id,0,none⟩) len len)
     |none => .fail "buildSlice")
    (.fail "buildSlice")
  | _,_ => .fail "buildSlice"
 | _ => .fail "buildSlice"
def jD:Value→AP Value
 | .pointer (some a) => .pure (.pointer (some a))
 | .iface t v => .pure (.iface t v)
 | .func (.func f) a b => .pure (.func (.func f) a b)
 | _ => .fail "nilCheck"
def intOp (op:BinOp) (k:IntKind) (x y:Int):Option Value:=
 match op with
 | .add=>some (.int k (k.wrap (x+y)))
 | .sub=>some (.int k (k.wrap (x-y)))
 | .mul=>some (.int k (k.wrap (x*y)))
 | .quo=>if y=0 then none else some (.int k (k.wrap (x.tdiv y)))
 | .rem=>if y=0 then none else some (.int k (x.tmod y))
 | .and=>some (.int k (k.wrap (BitVec.ofInt k.bits x&&&BitVec.ofInt k.bits y).toNat))
 | .or=>some (.int k (k.wrap (BitVec.ofInt k.bits x|||BitVec.ofInt k.bits y).toNat))
 | .xor=>some (.int k (k.wrap (BitVec.ofInt k.bits x^^^BitVec.ofInt k.bits y).toNat))
 | .andNot=>some (.int k (k.wrap (BitVec.ofInt k.bits x&&&~~~BitVec.ofInt k.bits y).toNat))
 | .eql=>some (.bool (x==y))
 | .neq=>some (.bool (x != y))
 | .lss=>some (.bool (decide (x<y)))
 | .leq=>some (.bool (decide (x≤y)))
 | .gtr=>some (.bool (decide (x>y)))
 | .geq=>some (.bool (decide (x≥y)))
 | _=>none
def shiftOp (op:BinOp) (k:IntKind) (x y:Int):Option Value:=
 if y<0 then none else
 match op with
 | .shl=>some (.int k (k.wrap (x*2^min y.toNat k.bits)))
 | .shr=>some (.int k (x.fdiv (2^min y.toNat k.bits)))
 | _=>none
def strOp (op:BinOp) (x y:ByteArray):Option Value:=
 match op with
 | .eql=>some (.bool (x.toList==y.toList))
 | .neq=>some (.bool !(x.toList==y.toList))
 | _=>none
def gu (t:TypeId) (cs:List Value) (off:Nat):Option Value:=
 match P.info? t,P.underlying t with
 |some i,some d=>cond (isAgg d) (some (.agg ⟨(cs.drop off).take i.size⟩)) (cs[off]?)
 | _,_=>none
def iX (tW:TypeId→Value→Value→AP Bool) (xs ys:List Value):List Field→AP Bool
 | [] => .pure true
 |f::r=>
  if f.name ≠ "_" then
   match gu P f.type xs f.offset,gu P f.type ys f.offset with
   |some a,some b=>(tW f.type a b).bind fun e=>cond e (iX tW xs ys r) (.pure false)
   | _,_ => .fail "equal"
  else iX tW xs ys r
def mY (tW:TypeId→Value→Value→AP Bool) (e:TypeId) (size:Nat) (xs ys:List Value):Nat→Nat→AP Bool
 |0,_ => .pure true
 |n+1,i=>
  match gu P e xs (i*size),gu P e ys (i*size) with
  |some a,some b=>(tW e a b).bind fun q=>cond q (mY tW e size xs ys n (i+1)) (.pure false)
  | _,_ => .fail "equal"
def bw:Nat→TypeId→Value→Value→AP Bool
 |0,_,_,_ => .fail "equal"
 |d+1,t,x,y=>
  match P.underlying t,x,y with
  |some .bool,.bool a,.bool b => .pure (a==b)
  |some (.int _),.int k a,.int k' b=>if k=k' then .pure (a==b) else .fail "equal"
  |some .string,.string a,.string b => .pure (a==b)
  |some (.pointer _),.pointer none,.pointer b => .pure b.isNone
  |some (.pointer _),.pointer (some _),.pointer none => .pure false
  |some (.pointer e),.pointer (some a),.pointer (some b)=>
   match P.info? e with
   |some i=>cond (Nat.beq i.size 0) (.fail "equal")
     (cond (Nat.beq a.block b.block) (.pure (Nat.beq a.off b.off))
      (.get a.block fun
       | .cells _ false => .get b.block fun
        | .cells _ false => .pure false
        | _ => .fail "equal"
       | _ => .fail "equal"))
   |none => .fail "equal"
  |some (.interface _),.nilIface,.nilIface => .pure true
  |some (.interface _),.nilIface,.iface _ _ => .pure false
  |some (.interface _),.iface _ _,.nilIface => .pure false
  |some (.interface _),.iface tx vx,.iface ty vy=>
   if tx=ty then
    match P.info? tx with
    |some i=>cond i.comparable (bw d tx vx vy) (.fail "equal")
    |none => .fail "equal"
   else .pure false
  |some (.struct fs),.agg xs,.agg ys=>
   cond (P.stoodInHeld t) (.fail "equal") (iX P (bw d) xs.toList ys.toList fs.toList)
  |some (.array n e),.agg xs,.agg ys=>
   match P.info? e with
   |some i=>mY P (bw d) e i.size xs.toList ys.toList n 0
   |none => .fail "equal"
  |some (.slice _),.slice none _ _,.slice b _ _ => .pure b.isNone
  |some (.slice _),.slice (some _) _ _,.slice none _ _ => .pure false
  |some (.map _ _),.map none,.map b => .pure b.isNone
  |some (.map _ _),.map (some _),.map none => .pure false
  |some (.func _ _ _),.nilFunc,.nilFunc => .pure true
  |some (.func _ _ _),.nilFunc,.func _ _ _ => .pure false
  |some (.func _ _ _),.func _ _ _,.nilFunc => .pure false
  | _,_,_ => .fail "equal"
def isConst:Operand→Bool
 | .const _=>true
 | _=>false
def bC (t:TypeId) (cx cy:Bool) (x y:Value):Bool:=
 match x,y with
 | .nilIface,.nilIface=>cx||cy||(match P.underlying t with |some (.interface ms)=>ms.isEmpty | _=>false)
 | .agg _,.agg _ => !P.eqGuardType P.depth t
 | _,_=>true
def dR (op:BinOp) (t:TypeId) (cx cy:Bool) (x y:Value):AP Value:=
 match op,x,y with
 | .shl,.int k a,.int _ b => .opt "shl" (shiftOp .shl k a b) .pure
 | .shr,.int k a,.int _ b => .opt "shr" (shiftOp .shr k a b) .pure
 |op,.int k a,.int k' b=>if k=k' then .opt "intOp" (intOp op k a b) .pure else .fail "binOp"
 |op,.string a,.string b => .opt "strOp" (strOp op a b) .pure
 | .eql,x,y=>cond (bC P t cx cy x y) ((bw P 12 t x y).bind fun b => .pure (.bool b)) (.fail "eqGuard")
 | .neq,x,y=>cond (bC P t cx cy x y) ((bw P 12 t x y).bind fun b => .pure (.bool !b)) (.fail "eqGuard")
 | _,_,_ => .fail "binOp"
def lu (op:UnOp) (x:Value):Option Value:=
 match op,x with
 | .neg,.int k n=>some (.int k (k.wrap (0-n)))
 | .xor,.int k n=>intOp .xor k (if k.signed then -1 else k.max) n
 | .not,.bool b=>some (.bool !b)
 | _,_=>none
def iY (src dst:TypeId) (x:Value):AP Value:=
 match P.underlying src,P.underlying dst,x with
 |some _,some (.int k),.int _ n => .pure (.int k (k.wrap n))
 |some _,some .string,.string s => .pure (.string s)
 | _,_,_ => .fail "convert"
def asNat (v:Value):Option Nat:=
 match v with
 | .int _ (.ofNat n)=>some n
 | _=>none
def gJ (a:Addr) (n:Nat):Addr:=⟨a.block,a.off+n,none⟩
def fS (s:TypeId) (x:Value) (f:Nat):AP Value:=
 match x,P.underlying s with
 | .pointer (some a),some (.struct fs)=>match fs.toList[f]? with
  |some fd=>match P.info? fd.type with
   |some i=>cond (Nat.beq i.size 0) (.fail "fieldAddr") (.pure (.pointer (some (gJ a fd.offset))))
   |none => .fail "fieldAddr"
  |none => .fail "fieldAddr"
 | _,_ => .fail "fieldAddr"
def nF (t:TypeId) (x:Value) (f:Nat):AP Value:=
 match x,P.underlying t with
 | .agg cs,some (.struct fs)=>match fs.toList[f]? with
  |some fd => .opt "field" (gu P fd.type cs.toList fd.offset) .pure
  |none => .fail "field"
 | _,_ => .fail "field"
def fT (t:TypeId) (x i:Value):AP Value:=
 match P.underlying t,x,asNat i with
 |some (.array len e),.pointer (some a),some n=>match P.info? e with
  |some j=>cond (Nat.blt n len) (.pure (.pointer (some (gJ a (n*j.size))))) (.fail "indexAddr")
  |none => .fail "indexAddr"
 |some (.slice e),.slice (some a) len _,some n=>match P.info? e with
  |some j=>cond (Nat.blt n len) (.pure (.pointer (some (gJ a (n*j.size))))) (.fail "indexAddr")
  |none => .fail "indexAddr"
 | _,_,_ => .fail "indexAddr"
def lz (t:TypeId) (x i:Value):AP Value:=
 match P.underlying t,x,asNat i with
 |some (.array len e),.agg cs,some n=>match P.info? e with
  |some j=>cond (Nat.blt n len) (.opt "index" (gu P e cs.toList (n*j.size)) .pure) (.fail "index")
  |none => .fail "index"
 |some .string,.string s,some n=>match s.data.toList[n]? with
  |some b => .pure (.int .u8 b.toNat)
  |none => .fail "index"
 | _,_,_ => .fail "index"
def cA (d:Nat):Option Value→Option Nat
 |none=>some d
 |some v=>asNat v
def rA:Option Value→Option Nat
 |none=>none
 |some v=>asNat v
def fU (a:Addr) (size len cap:Nat) (low high max:Option Value):AP Value:=
 let inf:=Nat.ble az cap
 match max with
 |none=>
  match cA len high,cA 0 low with
  |some h,some l=>
   cond (Nat.ble l h&&Nat.ble h (cond inf len cap))
    (cond inf
     (cond (Nat.beq cap (az+size)) (.pure (.slice (some (gJ a (l*size))) (h-l) cap)) (.fail "slice"))
     (.pure (.slice (some (cond (Nat.beq cap l) a (gJ a (l*size)))) (h-l) (cap-l))))
    (.fail "slice")
  | _,_ => .fail "slice"
 |some mv=>
  match asNat mv,rA high,cA 0 low with
  |some m,some h,some l=>
   cond (Nat.ble l h&&Nat.ble h m&&Nat.ble m (cond inf len cap)&&Nat.blt m az&&cond inf (Nat.blt 0 len) true)
    (.pure (.slice (some (cond (Nat.beq m l) a (gJ a (l*size)))) (h-l) (m-l)))
    (.fail "slice")
  | _,_,_ => .fail "slice"
def nG (t:TypeId) (x:Value) (low high max:Option Value):AP Value:=
 match P.underlying t,x with
 |some (.array n e),.pointer (some a)=>match P.info? e with
  |some i=>cond (Nat.blt n az) (fU a i.size n n low high max) (.fail "slice")
  |none => .fail "slice"
 |some (.slice e),.slice (some a) len cap=>match P.info? e with
  |some i=>fU a i.size len cap low high max
  |none => .fail "slice"
 |some (.slice e),.slice none len cap=>
  match cA 0 max,cA 0 high,cA 0 low,P.info? e with
  |some 0,some 0,some 0,some _=>cond (Nat.beq len 0&&Nat.beq cap 0&&(max.isNone||high.isSome)) (.pure (.slice none 0 0)) (.fail "slice")
  | _,_,_,_ => .fail "slice"
 | _,_ => .fail "slice"
def fV (t:TypeId) (l c:Value):AP Value:=
 match P.underlying t,asNat l,asNat c with
 |some (.slice e),some l,some c=>match P.info? e,zeroOf P e with
  |some i,some z=>
   cond (Nat.ble l c&&Nat.ble c 1048576&&Nat.ble i.bytes 65536&&Nat.beq z.cells.toList.length i.size&&Nat.blt 0 i.size)
    (.new (.cells (PT.ofList .leaf 0 (rep z.cells.toList c)) false) fun id => .pure (.slice (some ⟨id,0,none⟩) l c))
    (.fail "makeSlice")
  | _,_ => .fail "makeSlice"
 | _,_,_ => .fail "makeSlice"
def cO (t:TypeId) (x:Value):AP Value:=
 match P.underlying t with
 |some (.interface _) => .fail "makeInterface"
 |some _ => .pure (.iface t x)
 |none => .fail "makeInterface"
def jE:Fn→Bool
 | .yield _=>false
 | _=>true
def kF (want:List (String×TypeId)) (got:List Method):Bool:=
 want.all fun w=>got.any fun m=>m.name==w.1&&m.sig==w.2
def vF (ok:Bool) (v:Value):AP Value := .pure (cond ok (.tuple ⟨[v,.bool true]⟩) v)
def kG (t:TypeId) (ok:Bool):AP Value:=
 cond ok (match zeroOf P t with |some z => .pure (.tuple ⟨[z,.bool false]⟩) |none => .fail "typeAssert") (.fail "typeAssert")
def iZ (x:Value) (asserted:TypeId) (ok:Bool):AP Value:=
 match P.underlying asserted,x with
 |some _,.nilIface=>kG P asserted ok
 |some (.interface want),.iface t v=>match P.info? t with
  |some i=>cond (kF want.toList i.methods.toList) (vF ok (.iface t v)) (kG P asserted ok)
  |none => .fail "typeAssert"
 |some _,.iface t v=>if t=asserted then vF ok v else kG P asserted ok
 | _,_ => .fail "typeAssert"
def i_ (x:Value) (i:Nat):AP Value:=
 match x with
 | .tuple vs => .opt "extract" (vs.toList[i]?) .pure
 | _ => .fail "extract"
def simpleKey:TypeDesc→Bool
 | .int _ | .string | .bool=>true
 | _=>false
def jc (d:TypeDesc) (k:Value):List (Value×Value×Nat)→Nat→Option (Option (Nat×Value))
 | [],_=>some none
 |e::es,i=>match Instr.sameNow d k e.1 with
  |some true=>some (some (i,e.2.1))
  |some false=>jc d k es (i+1)
  |none=>none
def j9 (xs ys:List Value):List Field→Option Bool
 | []=>some true
 |f::r=>
  if f.name ≠ "_" then
   match P.underlying f.type,gu P f.type xs f.offset,gu P f.type ys f.offset with
   |some d,some a,some b=>match Instr.sameNow d a b with
    |some true=>j9 xs ys r
    |some false=>some false
    |none=>none
   | _,_,_=>none
  else j9 xs ys r
def jd (fs:List Field) (cs:List Value):List (Value×Value×Nat)→Nat→Option (Option (Nat×Value))
 | [],_=>some none
 |e::es,i=>match e.1 with
  | .agg ys=>match j9 P cs ys.toList fs with
   |some true=>some (some (i,e.2.1))
   |some false=>jd fs cs es (i+1)
   |none=>none
  | _=>none
def vG (fs:List Field) (cs:List Value):Bool:=fs.all fun f=>match P.underlying f.type,gu P f.type cs f.offset with
 |some d,some _=>simpleKey d
 | _,_=>false
def jX (kt:TypeId) (kd:TypeDesc) (k:Value):Bool:=match kd,k with
 | .struct fs,.agg cs => !P.stoodInHeld kt&&vG P fs.toList cs.toList
 | _,_=>simpleKey kd
def dS (kd:TypeDesc) (k:Value) (es:List (Value×Value×Nat)) (i:Nat):Option (Option (Nat×Value)):=match kd,k with
 | .struct fs,.agg cs=>jd P fs.toList cs.toList es i
 | _,_=>jc kd k es i
def kH (x:Value):AP (List (Value×Value×Nat)):=
 match x with
 | .map none => .pure []
 | .map (some r) => .get r fun | .map es _ => .pure es | _ => .fail "map block"
 | _ => .fail "map"
def mZ (t:TypeId) (x k:Value) (ok:Bool):AP Value:=
 match P.underlying t with
 |some (.map kt et)=>match P.underlying kt with
  |some kd=>cond (jX P kt kd k) ((kH x).bind fun es=>match dS P kd k es 0 with
   |some (some (_,v)) => .pure (cond ok (.tuple ⟨[v,.bool true]⟩) v)
   |some none=>match zeroOf P et with
    |some z => .pure (cond ok (.tuple ⟨[z,.bool false]⟩) z)
    |none => .fail "lookup"
   |none => .fail "lookup") (.fail "lookup")
  |none => .fail "lookup"
 | _ => .fail "lookup"
def je (k v:Value):List (Value×Value×Nat)→Nat→List (Value×Value×Nat)
 | [],_=>[]
 |e::es,0=>(k,v,e.2.2)::es
 |e::es,i+1=>e::je k v es i
def iw (t:TypeId) (x k v:Value):AP Unit:=
 match P.underlying t,x with
 |some (.map kt _),.map (some r)=>match P.underlying kt with
  |some kd=>cond (jX P kt kd k) (.get r fun
   | .map es clk=>match dS P kd k es 0 with
    |some (some (i,_))=>cond (simpleKey kd) (.set r (.map (je k v es i) clk) (.pure ())) (.fail "mapUpdate")
    |some none => .set r (.map (es++[(k,v,clk)]) (clk+1)) (.pure ())
    |none => .fail "mapUpdate"
   | _ => .fail "mapUpdate") (.fail "mapUpdate")
  |none => .fail "mapUpdate"
 | _,_ => .fail "mapUpdate"
def qi (ts:List TypeId) (args:List Value):AP Value:=
 match ts,args with
 |t::_,[.map (some r),k]=>match P.underlying t with
  |some (.map kt _)=>match P.underlying kt with
   |some kd=>cond (jX P kt kd k) (.get r fun
    | .map es clk=>match dS P kd k es 0 with
     |some (some (i,_)) => .set r (.map (es.eraseIdx i) clk) (.pure (.tuple ⟨[]⟩))
     |some none => .pure (.tuple ⟨[]⟩)
     |none => .fail "delete"
    | _ => .fail "delete") (.fail "delete")
   |none => .fail "delete"
  | _ => .fail "delete"
 | _,_ => .fail "delete"
def tX (t:TypeId) (x:Value):AP Value:=
 match P.underlying t,x with
 |some (.map _ _),.map none => .new (.iter none 0 [] 0) fun id => .pure (.pointer (some ⟨id,0,none⟩))
 |some (.map _ _),.map (some r) => .get r fun
  | .map _ clk => .new (.iter (some r) clk [] clk) fun id => .pure (.pointer (some ⟨id,0,none⟩))
  | _ => .fail "range"
 | _,_ => .fail "range"
def yt (x:Value) (isString:Bool):AP Value:=
 match x,isString with
 | .pointer (some a),false=>cond (Nat.beq a.off 0) (.get a.block fun
  | .iter none _ _ _ => .pure (.tuple ⟨[.bool false]⟩)
  | .iter (some m) since seen last => .get m fun
   | .map es clk=>
    cond (!seen.isEmpty && !es.isEmpty&&es.all (fun e=>Nat.ble last e.2.2)) (.fail "next")
    (match es.filter (fun e => !seen.any (Nat.beq e.2.2)) with
     | [] => .pure (.tuple ⟨[.bool false]⟩)
     | [e]=>cond (Nat.blt e.2.2 since)
        (.set a.block (.iter (some m) since (seen++[e.2.2]) clk) (.pure (.tuple ⟨[.bool true,e.1,e.2.1]⟩)))
        (.fail "next")
     | _ => .fail "next")
   | _ => .fail "next"
  | _ => .fail "next") (.fail "next")
 | _,_ => .fail "next"
def tY (x:Value):AP Value:=
 match x with
 | .pointer (some a)=>cond (Nat.beq a.off 0) (.get a.block fun
  | .iter (some m) _ seen stepped=>match seen.getLast? with
   |some stamp => .get m fun
    | .map es clk=>cond (Nat.beq clk stepped) (match es.find? (fun e=>Nat.beq e.2.2 stamp) with
     |some e => .pure (.tuple ⟨[e.1,e.2.1]⟩)
     |none => .fail "entry") (.fail "entry")
    | _ => .fail "entry"
   |none => .fail "entry"
  | _ => .fail "entry") (.fail "entry")
 | _ => .fail "entry"
def nH (t:TypeId) (hint:Option Value):AP Value:=
 match hint with
 |none => .new (.map [] 0) fun id => .pure (.map (some id))
 |some v=>match P.underlying t,v with
  |some (.map _ _),.int _ _ => .new (.map [] 0) fun id => .pure (.map (some id))
  | _,_ => .fail "makeMap"
inductive aC where
 |value (v:Value)
 |skip
 |enter (f:FuncId) (args:List Value)
 |round (l:Nat) (m:Tm) (assign body:Code)
def iy (size:Nat) (x:Value):AP (Nat×List Value):=
 match x with
 | .slice none n _ => .pure (n,[])
 | .slice (some a) n _ => .get a.block fun
  | .cells c _=>match aP c a.off (n*size) with |some l => .pure (n,l) |none => .fail "cells"
  | _ => .fail "cells"
 | .string s => .pure (s.size,s.data.toList.map fun b => .int .u8 b.toNat)
 | _ => .fail "cells"
def pE (i:TypeInfo) (z:Value) (len n:Nat) (old new:List Value):AP Value:=
 cond (Nat.ble (len+n) 1048576&&Nat.ble i.bytes 65536&&Nat.beq z.cells.toList.length i.size&&Nat.beq old.length (len*i.size)&&Nat.beq new.length (n*i.size))
  (.new (.cells (PT.ofList .leaf 0 (old++new)) false) fun id => .pure (.slice (some ⟨id,0,none⟩) (len+n) (az+i.size)))
  (.fail "append")
def lB (i:TypeInfo) (z:Value) (base:Option Addr) (len cap n:Nat) (new:List Value):AP Value:=
 cond (Nat.beq n 0&&Nat.ble len cap&&new.isEmpty) (.pure (.slice base len cap))
 (cond (Nat.ble az cap)
  (match base with
   |some a=>cond (Nat.beq cap (az+i.size)&&new.all bh)
    (.get a.block fun
     | .cells c false=>match aP c a.off (len*i.size) with
      |some old => .kill a.block (pE i z len n old new)
      |none => .fail "append"
     | _ => .fail "append") (.fail "append")
   |none => .fail "append")
  (cond (Nat.ble (len+n) cap)
   (match base with
    |some a => .get a.block fun
     | .cells c false=>match bB c (a.off+len*i.size) new with
      |some c' => .set a.block (.cells c' false) (.pure (.slice (some a) (len+n) cap))
      |none => .fail "append"
     | _ => .fail "append"
    |none => .fail "append")
   ((iy i.size (.slice base len cap)).bind fun p=>pE i z len n p.2 new)))
def jF (ts:List TypeId) (args:List Value):AP Value:=
 match ts,args with
 | [t,tx],[s,x]=>
  match P.underlying t,P.underlying tx,s with
  |some (.slice e),some (.int _),.slice none 0 0=>match P.info? e,zeroOf P e,x with
   |some i,some z,.int _ (.ofNat n)=>cond (Nat.blt 0 n&&Nat.blt 0 i.size) (pE i z 0 n [] (rep z.cells.toList n)) (.fail "append")
   | _,_,_ => .fail "append"
  |some (.slice _),some (.int _),_ => .fail "append"
  |some (.slice e),some _,.slice base len cap=>
   match P.info? e,zeroOf P e with
   |some i,some z=>(iy i.size x).bind fun p=>lB i z base len cap p.1 p.2
   | _,_ => .fail "append"
  | _,_,_ => .fail "append"
 | _,_ => .fail "append"
def Em (ts:List TypeId) (args:List Value):AP Value:=
 match ts,args with
 |t::_,x::_=>match P.underlying t,x with
  |some .string,.string s => .pure (.int .i64 s.size)
  |some (.array n _),_ => .pure (.int .i64 n)
  |some (.pointer arr),_=>match P.underlying arr with
   |some (.array n _) => .pure (.int .i64 n)
   | _ => .fail "len"
  |some (.slice _),.slice _ n _ => .pure (.int .i64 n)
  |some (.map _ _),x=>(kH x).bind fun es => .pure (.int .i64 es.length)
  | _,_ => .fail "len"
 | _,_ => .fail "len"
def En (ts:List TypeId) (args:List Value):AP Value:=
 match ts,args with
 |t::_,x::_=>match P.underlying t,x with
  |some (.array n _),_ => .pure (.int .i64 n)
  |some (.slice _),.slice _ _ n=>cond (Nat.ble az n) (.fail "cap") (.pure (.int .i64 n))
  | _,_ => .fail "cap"
 | _,_ => .fail "cap"
def yu (ts:List TypeId) (args:List Value):AP Value:=
 match ts,args with
 |t::_,[.slice base len _,x]=>match P.underlying t with
  |some (.slice e)=>match P.info? e,base,x with
   |some i,some a,.slice (some b) n _=>
    cond (Nat.beq (min n len) 0) (.pure (.int .i64 0)) (.get b.block fun
     | .cells c _=>match aP c b.off (min n len*i.size) with
      |some l => .get a.block fun
       | .cells d false=>match bB d a.off l with
        |some d' => .set a.block (.cells d' false) (.pure (.int .i64 (min n len:Nat)))
        |none => .fail "copy"
       | _ => .fail "copy"
      |none => .fail "copy"
     | _ => .fail "copy")
   |some _,none,.slice _ _ _=>cond (Nat.beq len 0) (.pure (.int .i64 0)) (.fail "copy")
   |some _,some _,.slice none n _ => .pure (.int .i64 (min n len:Nat))
   | _,_,_ => .fail "copy"
  | _ => .fail "copy"
 | _,_ => .fail "copy"
def tZ (ts:List TypeId) (args:List Value):AP Value:=
 match ts,args with
 |t::_,.slice none _ _::_=>match P.underlying t with |some _ => .pure (.tuple ⟨[]⟩) |none => .fail "clear"
 |t::_,.slice (some a) k _::_=>match P.underlying t with
  |some (.slice e)=>cond (Nat.beq k 0) (.pure (.tuple ⟨[]⟩)) (match P.info? e,zeroOf P e with
   |some _,some z=>cond (Nat.blt 0 z.cells.toList.length) (.get a.block fun
    | .cells c false=>match bB c a.off (rep z.cells.toList k) with
     |some c' => .set a.block (.cells c' false) (.pure (.tuple ⟨[]⟩))
     |none => .fail "clear"
    | _ => .fail "clear") (.fail "clear")
   | _,_ => .fail "clear")
  | _ => .fail "clear"
 | _,_ => .fail "clear"
def lC (mx:Bool):Value→List Value→Option Value
 |v,[]=>some v
 | .int k x,.int _ y::r=>lC mx (.int k (cond mx (if y>x then y else x) (if y<x then y else x))) r
 | _,_=>none
def gR (t:TypeId):Value ⊕ Addr→AP Value
 | .inl v => .pure v
 | .inr a=>dN P t (.pointer (some a))
def iz:List FieldStep→TypeId→Value ⊕ Addr→AP (TypeId×(Value ⊕ Addr))
 | [],t,x => .pure (t,x)
 |s::rest,t,x=>
  match P.underlying s.struct with
  |some (.struct fs)=>match fs.toList[s.index]? with
   |some f=>match P.info? f.type with
    |some i=>cond (Nat.beq i.size 0) (.fail "follow")
      (cond s.deref
       ((gR P t x).bind fun
        | .pointer (some a)=>iz rest f.type (.inr (gJ a f.offset))
        | _ => .fail "follow")
       (match x with
        | .inr a=>iz rest f.type (.inr (gJ a f.offset))
        | .inl (.agg cs)=>match gu P f.type cs.toList f.offset with
         |some v=>iz rest f.type (.inl v)
         |none => .fail "follow"
        | _ => .fail "follow"))
    |none => .fail "follow"
   |none => .fail "follow"
  | _ => .fail "follow"
def jG (xt:TypeId) (x:Value ⊕ Addr) (ptr:Bool):AP Value:=
 match P.underlying xt,ptr,x with
 |some (.pointer _),true,x=>gR P xt x
 |some (.pointer e),false,x=>(gR P xt x).bind fun
  | .pointer (some a)=>dN P e (.pointer (some a))
  | _ => .fail "receiver"
 |some _,true,.inr a => .pure (.pointer (some a))
 |some _,false,x=>gR P xt x
 | _,_,_ => .fail "receiver"
def m_:Nat→TypeId→Value→String→AP (FuncId×Value)
 |0,_,_,_ => .fail "method"
 |d+1,t,v,name=>match P.info? t with
  |some i=>match i.methods.toList.find? (fun m=>m.name==name) with
   |some m=>(iz P m.path.toList t (.inl v)).bind fun (xt,x)=>match m.func with
    |some (f,ptr)=>(jG P xt x ptr).bind fun r => .pure (f,r)
    |none=>(gR P xt x).bind fun
     | .iface t' v'=>m_ d t' v' name
     | _ => .fail "method"
   |none => .fail "method"
  |none => .fail "method"
inductive Atomic where
 |load |store |swap |HN |add
def cP:Atomic→String
 | .load => "sync/atomic.LoadUint64"
 | .store => "sync/atomic.StoreUint64"
 | .swap => "sync/atomic.SwapUint64"
 | .HN => "sync/atomic.CompareAndSwapUint64"
 | .add => "sync/atomic.AddUint64"
def rB (fn:Func):Option Atomic:=
 [Atomic.load,.store,.swap,.HN,.add].find? fun k=>fn.name==cP k&&(fn.origin==cP k||fn.origin == "")
def dh (c:PT Value) (a:Addr):Option Int:=
 match c.get a.off with
 |some (.int .u64 n)=>some n
 | _=>none
def qj (k:Atomic) (args:List Value):AP Value:=
 match k,args with
 | .load,[.pointer (some a)] => .get a.block fun
  | .cells c _=>match dh c a with |some n => .pure (.int .u64 n) |none => .fail "atomic"
  | _ => .fail "atomic"
 | .store,[.pointer (some a),.int .u64 v] => .get a.block fun
  | .cells c false=>match dh c a with |some _ => .set a.block (.cells (c.set a.off (some (.int .u64 v))) false) (.pure (.tuple ⟨[]⟩)) |none => .fail "atomic"
  | _ => .fail "atomic"
 | .swap,[.pointer (some a),.int .u64 v] => .get a.block fun
  | .cells c false=>match dh c a with |some n => .set a.block (.cells (c.set a.off (some (.int .u64 v))) false) (.pure (.int .u64 n)) |none => .fail "atomic"
  | _ => .fail "atomic"
 | .HN,[.pointer (some a),.int .u64 o,.int .u64 v] => .get a.block fun
  | .cells c false=>match dh c a with
   |some n=>cond (n==o) (.set a.block (.cells (c.set a.off (some (.int .u64 v))) false) (.pure (.bool true))) (.pure (.bool false))
   |none => .fail "atomic"
  | _ => .fail "atomic"
 | .add,[.pointer (some a),.int .u64 v] => .get a.block fun
  | .cells c false=>match dh c a with
   |some n => .set a.block (.cells (c.set a.off (some (.int .u64 (IntKind.u64.wrap (n+v))))) false) (.pure (.int .u64 (IntKind.u64.wrap (n+v))))
   |none => .fail "atomic"
  | _ => .fail "atomic"
 | _,_ => .fail "atomic operands"
def aj (f:FuncId) (args:List Value):AP aC:=
 match P.funcs[f]? with
 |some fn=>cond (fn.name == "runtime.NumGoroutine") (.fail "call NumGoroutine") (cond fn.body.isSome (.pure (.enter f args))
   (match rB fn with
    |some k=>(qj k args).bind fun v => .pure (.value v)
    |none => .fail "call no body"))
 |none => .fail "call no function"
def cQ (recv:Value) (name:String) (args:List Value):AP aC:=
 match recv with
 | .iface t v=>(m_ P 6 t v name).bind fun (f,r)=>aj P f (r::args)
 | _ => .fail "invoke nil"
def fE (fn:Fn) (captured args:List Value):AP aC:=
 match fn with
 | .func f=>aj P f (args++captured)
 | .method name=>match args with
  |r::rest=>cQ P r name rest
  | [] => .fail "call receiver"
 | .methodOf t name=>match args with
  |r::rest=>match P.underlying t with
   |some (.interface _)=>cQ P r name rest
   |some _=>cQ P (.iface t r) name rest
   |none => .fail "methodOf"
  | [] => .fail "call receiver"
 | .via t path f ptr=>match args with
  |x::rest=>(iz P path.toList t (.inl x)).bind fun (xt,y)=>(jG P xt y ptr).bind fun r=>aj P f (r::rest)
  | [] => .fail "call receiver"
 | .yield l => .get l fun
  | .loop _ _ tm ps as bd=>match dD ps args tm with
   |some m => .pure (.round l { m with gn:=[] } as bd)
   |none => .fail "yield arguments"
  | _ => .fail "yield loop"
def jf (b:Builtin) (ts:List TypeId) (args:List Value):AP Value:=
 match b with
 | .append=>jF P ts args
 | .len=>Em P ts args
 | .cap=>En P ts args
 | .copy=>yu P ts args
 | .delete=>qi P ts args
 | .clear=>tZ P ts args
 | .min=>match args with |x::r => .opt "min" (lC false x r) .pure | [] => .fail "min"
 | .max=>match args with |x::r => .opt "max" (lC true x r) .pure | [] => .fail "max"
 | _ => .fail "builtin"
def vH (ρ:Operand→Value) (c:Call):AP aC:=
 match c.callee with
 | .builtin b=>(jf P b c.argTypes.toList (c.args.toList.map ρ)).bind fun v => .pure (.value v)
 | .invoke recv name=>cQ P (ρ recv) name (c.args.toList.map ρ)
 | .value f=>match ρ f with
  | .func fn first captured=>fE P fn captured.toList (first.toList++c.args.toList.map ρ)
  | _ => .fail "call nil function"
def gO (ρ:Operand→Value) (o:Oper):AP aC:=
 let v (s:AP Value):AP aC:=s.bind fun x => .pure (.value x)
 let u (s:AP Unit):AP aC:=s.bind fun _ => .pure .skip
 match o.op with
 | .move x | .assign x => .pure (.value (ρ x))
 | .pick c a b=>match ρ c with | .bool t => .pure (.value (cond t (ρ a) (ρ b))) | _ => .fail "pick"
 | .alloc e=>v (nC P e)
 | .box _ x=>v (newRow (ρ x).cells.toList)
 | .build t ps=>v (nD P t (ps.toList.map fun p=>(p.1,ρ p.2)))
 | .buildSlice t n ps=>v (eN P t n (ps.toList.map fun p=>(p.1,ρ p.2)))
 | .load t a=>v (dN P t (ρ a))
 | .store t a x=>u (nB P t (ρ a) (ρ x))
 | .nilCheck x=>v (jD (ρ x))
 | .binOp op t x y _=>v (dR P op t (isConst x) (isConst y) (ρ x) (ρ y))
 | .unOp op _ x=>v (.opt "unOp" (lu op (ρ x)) .pure)
 | .convert s d x=>v (iY P s d (ρ x))
 | .makeInterface t x=>v (cO P t (ρ x))
 | .makeFunc fn first captured=>cond (jE fn) (.pure (.value (.func fn ⟨first.toList.map ρ⟩ ⟨captured.toList.map ρ⟩))) (.fail "makeFunc")
 | .range t x=>v (tX P t (ρ x))
 | .next x b=>v (yt (ρ x) b)
 | .entry x=>v (tY (ρ x))
 | .makeMap t r=>v (nH P t (r.map ρ))
 | .makeSlice t l c=>v (fV P t (ρ l) (ρ c))
 | .slice t x lo hi mx=>v (nG P t (ρ x) (lo.map ρ) (hi.map ρ) (mx.map ρ))
 | .fieldAddr s x f=>v (fS P s (ρ x) f)
 | .field t x f=>v (nF P t (ρ x) f)
 | .indexAddr t x i=>v (fT P t (ρ x) (ρ i))
 | .index t x i=>v (lz P t (ρ x) (ρ i))
 | .lookup t x i ok=>v (mZ P t (ρ x) (ρ i) ok)
 | .mapUpdate t m k x | .insert t m k x=>u (iw P t (ρ m) (ρ k) (ρ x))
 | .typeAssert x _ t ok=>v (iZ P (ρ x) t ok)
 | .extract x i=>v (i_ (ρ x) i)
 | .call c=>vH P ρ c
 | _ => .fail "operation"
end Go.Am
