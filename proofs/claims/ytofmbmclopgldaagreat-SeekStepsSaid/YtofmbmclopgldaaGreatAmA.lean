/-
A part.
-/
import GoSem.Core.Machine
import GoSem.Machine.Frame
import Derived.Calls
import Derived.Orders
set_option linter.all false
theorem qJ{p:Prop}(h:p:=by omega):p:=h
theorem qi{p:Prop}(h:p:=by decide):p:=h
namespace Go.Am
inductive PT (α:Type) where
 |leaf
 |node (l:PT α) (v:Option α) (r:PT α)
def bits:Nat→Nat→List Bool
 |0,_=>[]
 |f+1,n=>cond (Nat.beq n 0) [] (Nat.beq (Nat.mod n 2) 1::bits f (Nat.div n 2))
def PT.fm{α:Type}:List Bool→PT α→Option α
 | _,.leaf=>none
 | [],.node _ v _=>v
 |b::k,.node l _ r=>cond b (PT.fm k r) (PT.fm k l)
def PT.dV{α:Type}:List Bool→Option α→PT α→PT α
 | [],v,.leaf => .node .leaf v .leaf
 | [],v,.node l _ r => .node l v r
 |b::k,v,.leaf=>cond b (.node .leaf none (PT.dV k v .leaf)) (.node (PT.dV k v .leaf) none .leaf)
 |b::k,v,.node l u r=>cond b (.node l u (PT.dV k v r)) (.node (PT.dV k v l) u r)
def PT.get{α:Type}(t:PT α)(n:Nat):Option α:=t.fm (bits n n)
def PT.set{α:Type}(t:PT α)(n:Nat)(v:Option α):PT α:=t.dV (bits n n) v
def PT.ofList{α:Type}(t:PT α)(off:Nat):List α→PT α
 | []=>t
 |v::vs=>PT.ofList (t.set off (some v)) (off+1) vs
structure Tm where
 n:Nat
 t:PT Value
 fF:List Nat
def Tm.put(m:Tm)(d:Option Nat)(v:Value):Option Tm:=
 match d with
 |none=>some m
 |some i=>cond (Nat.blt i m.n) (some { m with t:=m.t.set i (some v) }) none
def iy:List Tmp→List Value→Tm→Option Tm
 |d::ds,v::vs,m=>match m.put (some d) v with
  |some m=>iy ds vs m
  |none=>none
 | [],[],m=>some m
 | _,_,_=>none
inductive aj where
 |cells (c:PT Value) (ro:Bool)
 |map (es:List (Value×Value×Nat)) (clk:Nat)
 |iter (m:Option Nat) (since:Nat) (seen:List Nat) (stepped:Nat)
 |loop (st:LoopState) (h_:Option Code) (tm:Tm) (ps:List Tmp) (assign body:Code)
 |deferred
inductive AP (α:Type) where
 |pure (a:α)
 |fail (why:String)
 |get (id:Nat) (k:aj→AP α)
 |set (id:Nat) (b:aj) (k:AP α)
 |kill (id:Nat) (k:AP α)
 |new (b:aj) (k:Nat→AP α)
structure HS where
 heap:PT aj
 next:Nat
 rd:List Nat
 wr:List Nat
inductive aO (α:Type) where
 |fail (why:String)
 |ok (a:α) (s:HS)
def ins(n:Nat)(l:List Nat):List Nat:=cond (l.any (Nat.beq n)) l (n::l)
def AP.run{α:Type}(lim:Nat):AP α→HS→aO α
 | .pure a,s => .ok a s
 | .fail why,_ => .fail why
 | .get id k,s=>match s.heap.get id with
  |none => .fail "get"
  |some b=>(k b).run lim (cond (Nat.blt id lim) { s with rd:=ins id s.rd } s)
 | .set id b k,s=>match s.heap.get id with
  |none => .fail "set"
  |some _=>k.run lim (cond (Nat.blt id lim) { s with heap:=s.heap.set id (some b),wr:=ins id s.wr } { s with heap:=s.heap.set id (some b) })
 | .kill id k,s=>match s.heap.get id with
  |none => .fail "kill"
  |some _=>k.run lim (cond (Nat.blt id lim) { s with heap:=s.heap.set id none,wr:=ins id s.wr } { s with heap:=s.heap.set id none })
 | .new b k,s=>(k s.next).run lim { s with heap:=s.heap.set s.next (some b),next:=Nat.succ s.next }
def AP.bind{α β:Type}:AP α→(α→AP β)→AP β
 | .pure a,f=>f a
 | .fail w,_ => .fail w
 | .get id k,f => .get id fun b=>(k b).bind f
 | .set id b k,f => .set id b (k.bind f)
 | .kill id k,f => .kill id (k.bind f)
 | .new b k,f => .new b fun i=>(k i).bind f
instance:Monad AP where
 pure:=AP.pure
 bind:=AP.bind
def AP.opt{α β:Type}(why:String)(o:Option α)(k:α→AP β):AP β:=match o with |some a=>k a |none => .fail why
def aA:Nat:=4611686018427387904
def isAgg:TypeDesc→Bool
 | .struct _ | .array _ _=>true
 | _=>false
def aW(c:PT Value)(off:Nat):Nat→Option (List Value)
 |0=>some []
 |n+1=>match c.get off with
  |none=>none
  |some v=>match aW c (Nat.succ off) n with
   |none=>none
   |some l=>some (v::l)
def bw:Value→Bool
 | .agg _ | .tuple _=>false
 | _=>true
def bN(c:PT Value)(off:Nat):List Value→Option (PT Value)
 | []=>some c
 |v::vs=>match c.get off with
  |none=>none
  |some _=>cond (bw v) (bN (c.set off (some v)) (Nat.succ off) vs) none
def flat:Nat→Value→Bool
 | _,.bool _ | _,.int _ _ | _,.float _ _ | _,.complex _ _ _ | _,.string _ | _,.pointer none | _,.slice none _ _ | _,.map none | _,.chan none | _,.nilFunc | _,.nilIface=>true
 |n+1,.agg cs=>cs.toList.all (flat n)
 |n+1,.tuple cs=>cs.toList.all (flat n)
 |n+1,.iface _ v=>flat n v
 | _,.func (.func _) ⟨[]⟩ ⟨[]⟩=>true
 | _,_=>false
variable (P:Program)
def fG(t:TypeId)(x:Value):AP Value:=
 match x,P.info? t,P.underlying t with
 | .pointer (some a),some i,some d => .get a.block fun
  | .cells c _=>cond (isAgg d)
    (match aW c a.off i.size with |some l => .pure (.agg ⟨l⟩) |none => .fail "load")
    (match c.get a.off with |some v => .pure v |none => .fail "load")
  | _ => .fail "load"
 | _,_,_ => .fail "load"
def mW(t:TypeId)(x v:Value):AP Unit:=
 match x,P.info? t with
 | .pointer (some a),some i=>
  cond (Nat.beq v.cells.toList.length i.size) (.get a.block fun
   | .cells c false=>match bN c a.off v.cells.toList with
    |some c' => .set a.block (.cells c' false) (.pure ())
    |none => .fail "store"
   | _ => .fail "store") (.fail "store")
 | _,_ => .fail "store"
def newRow(l:List Value):AP Value := .new (.cells (PT.ofList .leaf 0 l) false) fun id => .pure (.pointer (some ⟨id,0,none⟩))
def zeroOf(t:TypeId):Option Value:=
 match P.info? t with
 |some i=>match i.zero with
  |some z=>cond (flat 4 z) (some z) none
  |none=>none
 |none=>none
def qN(t:TypeId):AP Value:=
 match zeroOf P t with
 |some z=>newRow z.cells.toList
 |none => .fail "alloc"
def fD(l:List Value)(off:Nat)(vs:List Value):List Value:=l.take off++vs++l.drop (off+vs.length)
def iV(place:Nat→Option (Nat×Nat))(cells:List Value):List (Nat×Value)→Option (List Value)
 | []=>some cells
 | (i,v)::rest=>match place i with
  |none=>none
  |some (off,size)=>
   cond (Nat.beq v.cells.toList.length size&&Nat.ble (off+v.cells.toList.length) cells.length) (iV place (fD cells off v.cells.toList) rest) none
def fH(fs:List Field):Option (List (Nat×Nat)):=
 match fs with
 | []=>some []
 |f::r=>match P.info? f.type,fH r with
  |some i,some l=>some ((f.offset,i.size)::l)
  | _,_=>none
def qO(t:TypeId)(parts:List (Nat×Value)):AP Value:=
 match zeroOf P t,P.underlying t with
 |some z,some (.struct fs)=>match fH P fs.toList with
  |some ps=>match iV (ps[·]?) z.cells.toList parts with
   |some l => .pure (.agg ⟨l⟩)
   |none => .fail "build"
  |none => .fail "build"
 |some z,some (.array _ e)=>match P.info? e with
  |some i=>match iV (fun j=>some (j*i.size,i.size)) z.cells.toList parts with
   |some l => .pure (.agg ⟨l⟩)
   |none => .fail "build"
  |none => .fail "build"
 | _,_ => .fail "build"
def rep(z:List Value):Nat→List Value
 |0=>[]
 |n+1=>z++rep z n
def gu(t:TypeId)(len:Nat)(parts:List (Nat×Value)):AP Value:=
 match P.underlying t with
 |some (.slice e)=>match P.info? e,zeroOf P e with
  |some i,some z=>
   cond (Nat.ble (len*i.size) 16777216&&Nat.beq z.cells.toList.length i.size&&Nat.blt 0 i.size)
    (match iV (fun j=>some (j*i.size,i.size)) (rep z.cells.toList len) parts with
     |some l => .new (.cells (PT.ofList .leaf 0 l) false) fun id => .pure (.slice (some ⟨id,0,none⟩) len len)
     |none => .fail "buildSlice")
    (.fail "buildSlice")
  | _,_ => .fail "buildSlice"
 | _ => .fail "buildSlice"
def kr:Value→AP Value
 | .pointer (some a) => .pure (.pointer (some a))
 | .iface t v => .pure (.iface t v)
 | .func (.func f) a b => .pure (.func (.func f) a b)
 | _ => .fail "nilCheck"
def intOp(op:BinOp)(k:IntKind)(x y:Int):Option Value:=
 match op with
 | .add=>some (.int k (k.wrap (x+y)))
 | .sub=>some (.int k (k.wrap (x-y)))
 | .mul=>some (.int k (k.wrap (x*y)))
 | .quo=>if y=0 then none else some (.int k (k.wrap (x.tdiv y)))
 | .rem=>if y=0 then none else some (.int k (x.tmod y))
 | .and=>some (.int k (k.wrap (BitVec.ofInt k.bits x&&&BitVec.ofInt k.bits y).toNat))
 | .or=>some (.int k (k.wrap (BitVec.ofInt k.bits x|||BitVec.ofInt k.bits y).toNat))
 | .xor=>some (.int k (k.wrap (BitVec.ofInt k.bits x^^^BitVec.ofInt k.bits y).toNat))
 | .andNot=>some (.int k (k.wrap (BitVec.ofInt k.bits x&&&~~~BitVec.ofInt k.bits y).toNat))
 | .eql=>some (.bool (x==y))
 | .neq=>some (.bool (x != y))
 | .lss=>some (.bool (decide (x<y)))
 | .leq=>some (.bool (decide (x≤y)))
 | .gtr=>some (.bool (decide (x>y)))
 | .geq=>some (.bool (decide (x≥y)))
 | _=>none
def shiftOp(op:BinOp)(k:IntKind)(x y:Int):Option Value:=
 if y<0 then none else
 match op with
 | .shl=>some (.int k (k.wrap (x*2^min y.toNat k.bits)))
 | .shr=>some (.int k (x.fdiv (2^min y.toNat k.bits)))
 | _=>none
def strOp(op:BinOp)(x y:ByteArray):Option Value:=
 match op with
 | .eql=>some (.bool (x.toList==y.toList))
 | .neq=>some (.bool !(x.toList==y.toList))
 | _=>none
def k_(t:TypeId)(cs:List Value)(off:Nat):Option Value:=
 match P.info? t,P.underlying t with
 |some i,some d=>cond (isAgg d) (some (.agg ⟨(cs.drop off).take i.size⟩)) (cs[off]?)
 | _,_=>none
def ou(FE:TypeId→Value→Value→AP Bool)(xs ys:List Value):List Field→AP Bool
 | [] => .pure true
 |f::r=>
  if f.name ≠ "_" then
   match k_ P f.type xs f.offset,k_ P f.type ys f.offset with
   |some a,some b=>(FE f.type a b).bind fun e=>cond e (ou FE xs ys r) (.pure false)
   | _,_ => .fail "equal"
  else ou FE xs ys r
def vO(FE:TypeId→Value→Value→AP Bool)(e:TypeId)(size:Nat)(xs ys:List Value):Nat→Nat→AP Bool
 |0,_ => .pure true
 |n+1,i=>
  match k_ P e xs (i*size),k_ P e ys (i*size) with
  |some a,some b=>(FE e a b).bind fun q=>cond q (vO FE e size xs ys n (i+1)) (.pure false)
  | _,_ => .fail "equal"
def cj:Nat→TypeId→Value→Value→AP Bool
 |0,_,_,_ => .fail "equal"
 |d+1,t,x,y=>
  match P.underlying t,x,y with
  |some .bool,.bool a,.bool b => .pure (a==b)
  |some (.int _),.int k a,.int k' b=>if k=k' then .pure (a==b) else .fail "equal"
  |some .string,.string a,.string b => .pure (a==b)
  |some (.pointer _),.pointer none,.pointer b => .pure b.isNone
  |some (.pointer _),.pointer (some _),.pointer none => .pure false
  |some (.pointer e),.pointer (some a),.pointer (some b)=>
   match P.info? e with
   |some i=>cond (Nat.beq i.size 0) (.fail "equal")
     (cond (Nat.beq a.block b.block) (.pure (Nat.beq a.off b.off))
      (.get a.block fun
       | .cells _ false => .get b.block fun
        | .cells _ false => .pure false
        | _ => .fail "equal"
       | _ => .fail "equal"))
   |none => .fail "equal"
  |some (.interface _),.nilIface,.nilIface => .pure true
  |some (.interface _),.nilIface,.iface _ _ => .pure false
  |some (.interface _),.iface _ _,.nilIface => .pure false
  |some (.interface _),.iface tx vx,.iface ty vy=>
   if tx=ty then
    match P.info? tx with
    |some i=>cond i.comparable (cj d tx vx vy) (.fail "equal")
    |none => .fail "equal"
   else .pure false
  |some (.struct fs),.agg xs,.agg ys=>
   cond (P.stoodInHeld t) (.fail "equal") (ou P (cj d) xs.toList ys.toList fs.toList)
  |some (.array n e),.agg xs,.agg ys=>
   match P.info? e with
   |some i=>vO P (cj d) e i.size xs.toList ys.toList n 0
   |none => .fail "equal"
  |some (.slice _),.slice none _ _,.slice b _ _ => .pure b.isNone
  |some (.slice _),.slice (some _) _ _,.slice none _ _ => .pure false
  |some (.map _ _),.map none,.map b => .pure b.isNone
  |some (.map _ _),.map (some _),.map none => .pure false
  |some (.func _ _ _),.nilFunc,.nilFunc => .pure true
  |some (.func _ _ _),.nilFunc,.func _ _ _ => .pure false
  |some (.func _ _ _),.func _ _ _,.nilFunc => .pure false
  | _,_,_ => .fail "equal"
def isConst:Operand→Bool
 | .const _=>true
 | _=>false
def b9(t:TypeId)(cx cy:Bool)(x y:Value):Bool:=
 match x,y with
 | .nilIface,.nilIface=>cx||cy||(match P.underlying t with |some (.interface ms)=>ms.isEmpty | _=>false)
 | .agg _,.agg _ => !P.eqGuardType P.depth t
 | _,_=>true
def eE(op:BinOp)(t:TypeId)(cx cy:Bool)(x y:Value):AP Value:=
 match op,x,y with
 | .shl,.int k a,.int _ b => .opt "shl" (shiftOp .shl k a b) .pure
 | .shr,.int k a,.int _ b => .opt "shr" (shiftOp .shr k a b) .pure
 |op,.int k a,.int k' b=>if k=k' then .opt "intOp" (intOp op k a b) .pure else .fail "binOp"
 |op,.string a,.string b => .opt "strOp" (strOp op a b) .pure
 | .eql,x,y=>cond (b9 P t cx cy x y) ((cj P 12 t x y).bind fun b => .pure (.bool b)) (.fail "eqGuard")
 | .neq,x,y=>cond (b9 P t cx cy x y) ((cj P 12 t x y).bind fun b => .pure (.bool !b)) (.fail "eqGuard")
 | _,_,_ => .fail "binOp"
def oz(op:UnOp)(x:Value):Option Value:=
 match op,x with
 | .neg,.int k n=>some (.int k (k.wrap (0-n)))
 | .xor,.int k n=>intOp .xor k (if k.signed then -1 else k.max) n
 | .not,.bool b=>some (.bool !b)
 | _,_=>none
def kG(src dst:TypeId)(x:Value):AP Value:=
 match P.underlying src,P.underlying dst,x with
 |some _,some (.int k),.int _ n => .pure (.int k (k.wrap n))
 |some _,some .string,.string s => .pure (.string s)
 | _,_,_ => .fail "convert"
def asNat(v:Value):Option Nat:=
 match v with
 | .int _ (.ofNat n)=>some n
 | _=>none
def kH(a:Addr)(n:Nat):Addr:=⟨a.block,a.off+n,none⟩
def gx(s:TypeId)(x:Value)(f:Nat):AP Value:=
 match x,P.underlying s with
 | .pointer (some a),some (.struct fs)=>match fs.toList[f]? with
  |some fd=>match P.info? fd.type with
   |some i=>cond (Nat.beq i.size 0) (.fail "fieldAddr") (.pure (.pointer (some (kH a fd.offset))))
   |none => .fail "fieldAddr"
  |none => .fail "fieldAddr"
 | _,_ => .fail "fieldAddr"
def qP(t:TypeId)(x:Value)(f:Nat):AP Value:=
 match x,P.underlying t with
 | .agg cs,some (.struct fs)=>match fs.toList[f]? with
  |some fd => .opt "field" (k_ P fd.type cs.toList fd.offset) .pure
  |none => .fail "field"
 | _,_ => .fail "field"
def eY(t:TypeId)(x i:Value):AP Value:=
 match P.underlying t,x,asNat i with
 |some (.array len e),.pointer (some a),some n=>match P.info? e with
  |some j=>cond (Nat.blt n len) (.pure (.pointer (some (kH a (n*j.size))))) (.fail "indexAddr")
  |none => .fail "indexAddr"
 |some (.slice e),.slice (some a) len _,some n=>match P.info? e with
  |some j=>cond (Nat.blt n len) (.pure (.pointer (some (kH a (n*j.size))))) (.fail "indexAddr")
  |none => .fail "indexAddr"
 | _,_,_ => .fail "indexAddr"
def oA(t:TypeId)(x i:Value):AP Value:=
 match P.underlying t,x,asNat i with
 |some (.array len e),.agg cs,some n=>match P.info? e with
  |some j=>cond (Nat.blt n len) (.opt "index" (k_ P e cs.toList (n*j.size)) .pure) (.fail "index")
  |none => .fail "index"
 |some .string,.string s,some n=>match s.data.toList[n]? with
  |some b => .pure (.int .u8 b.toNat)
  |none => .fail "index"
 | _,_,_ => .fail "index"
def fq(d:Nat):Option Value→Option Nat
 |none=>some d
 |some v=>asNat v
def CW:Option Value→Option Nat
 |none=>none
 |some v=>asNat v
def kI(a:Addr)(size len cap:Nat)(low high max:Option Value):AP Value:=
 let inf:=Nat.ble aA cap
 match max with
 |none=>
  match fq len high,fq 0 low with
  |some h,some l=>
   cond (Nat.ble l h&&Nat.ble h (cond inf len cap))
    (cond inf
     (cond (Nat.beq cap (aA+size)) (.pure (.slice (some (kH a (l*size))) (h-l) cap)) (.fail "slice"))
     (.pure (.slice (some (cond (Nat.beq cap l) a (kH a (l*size)))) (h-l) (cap-l))))
    (.fail "slice")
  | _,_ => .fail "slice"
 |some mv=>
  match asNat mv,CW high,fq 0 low with
  |some m,some h,some l=>
   cond (Nat.ble l h&&Nat.ble h m&&Nat.ble m (cond inf len cap)&&Nat.blt m aA&&cond inf (Nat.blt 0 len) true)
    (.pure (.slice (some (cond (Nat.beq m l) a (kH a (l*size)))) (h-l) (m-l)))
    (.fail "slice")
  | _,_,_ => .fail "slice"
def qQ(t:TypeId)(x:Value)(low high max:Option Value):AP Value:=
 match P.underlying t,x with
 |some (.array n e),.pointer (some a)=>match P.info? e with
  |some i=>cond (Nat.blt n aA) (kI a i.size n n low high max) (.fail "slice")
  |none => .fail "slice"
 |some (.slice e),.slice (some a) len cap=>match P.info? e with
  |some i=>kI a i.size len cap low high max
  |none => .fail "slice"
 |some (.slice e),.slice none len cap=>
  match fq 0 max,fq 0 high,fq 0 low,P.info? e with
  |some 0,some 0,some 0,some _=>cond (Nat.beq len 0&&Nat.beq cap 0&&(max.isNone||high.isSome)) (.pure (.slice none 0 0)) (.fail "slice")
  | _,_,_,_ => .fail "slice"
 | _,_ => .fail "slice"
def iF(t:TypeId)(l c:Value):AP Value:=
 match P.underlying t,asNat l,asNat c with
 |some (.slice e),some l,some c=>match P.info? e,zeroOf P e with
  |some i,some z=>
   cond (Nat.ble l c&&Nat.ble c 1048576&&Nat.ble i.bytes 65536&&Nat.beq z.cells.toList.length i.size&&Nat.blt 0 i.size)
    (.new (.cells (PT.ofList .leaf 0 (rep z.cells.toList c)) false) fun id => .pure (.slice (some ⟨id,0,none⟩) l c))
    (.fail "makeSlice")
  | _,_ => .fail "makeSlice"
 | _,_,_ => .fail "makeSlice"
def dX(t:TypeId)(x:Value):AP Value:=
 match P.underlying t with
 |some (.interface _) => .fail "makeInterface"
 |some _ => .pure (.iface t x)
 |none => .fail "makeInterface"
def j6:Fn→Bool
 | .yield _=>false
 | _=>true
def rS(want:List (String×TypeId))(got:List Method):Bool:=
 want.all fun w=>got.any fun m=>m.name==w.1&&m.sig==w.2
def HX(ok:Bool)(v:Value):AP Value := .pure (cond ok (.tuple ⟨[v,.bool true]⟩) v)
def rT(t:TypeId)(ok:Bool):AP Value:=
 cond ok (match zeroOf P t with |some z => .pure (.tuple ⟨[z,.bool false]⟩) |none => .fail "typeAssert") (.fail "typeAssert")
def jK(x:Value)(asserted:TypeId)(ok:Bool):AP Value:=
 match P.underlying asserted,x with
 |some _,.nilIface=>rT P asserted ok
 |some (.interface want),.iface t v=>match P.info? t with
  |some i=>cond (rS want.toList i.methods.toList) (HX ok (.iface t v)) (rT P asserted ok)
  |none => .fail "typeAssert"
 |some _,.iface t v=>if t=asserted then HX ok v else rT P asserted ok
 | _,_ => .fail "typeAssert"
def jL(x:Value)(i:Nat):AP Value:=
 match x with
 | .tuple vs => .opt "extract" (vs.toList[i]?) .pure
 | _ => .fail "extract"
def simpleKey:TypeDesc→Bool
 | .int _ | .string | .bool=>true
 | _=>false
def kJ(d:TypeDesc)(k:Value):List (Value×Value×Nat)→Nat→Option (Option (Nat×Value))
 | [],_=>some none
 |e::es,i=>match Instr.sameNow d k e.1 with
  |some true=>some (some (i,e.2.1))
  |some false=>kJ d k es (i+1)
  |none=>none
def qR(xs ys:List Value):List Field→Option Bool
 | []=>some true
 |f::r=>
  if f.name ≠ "_" then
   match P.underlying f.type,k_ P f.type xs f.offset,k_ P f.type ys f.offset with
   |some d,some a,some b=>match Instr.sameNow d a b with
    |some true=>qR xs ys r
    |some false=>some false
    |none=>none
   | _,_,_=>none
  else qR xs ys r
def oB(fs:List Field)(cs:List Value):List (Value×Value×Nat)→Nat→Option (Option (Nat×Value))
 | [],_=>some none
 |e::es,i=>match e.1 with
  | .agg ys=>match qR P cs ys.toList fs with
   |some true=>some (some (i,e.2.1))
   |some false=>oB fs cs es (i+1)
   |none=>none
  | _=>none
def HY(fs:List Field)(cs:List Value):Bool:=fs.all fun f=>match P.underlying f.type,k_ P f.type cs f.offset with
 |some d,some _=>simpleKey d
 | _,_=>false
def nZ(kt:TypeId)(kd:TypeDesc)(k:Value):Bool:=match kd,k with
 | .struct fs,.agg cs => !P.stoodInHeld kt&&HY P fs.toList cs.toList
 | _,_=>simpleKey kd
def dh(kd:TypeDesc)(k:Value)(es:List (Value×Value×Nat))(i:Nat):Option (Option (Nat×Value)):=match kd,k with
 | .struct fs,.agg cs=>oB P fs.toList cs.toList es i
 | _,_=>kJ kd k es i
def pU(x:Value):AP (List (Value×Value×Nat)):=
 match x with
 | .map none => .pure []
 | .map (some r) => .get r fun | .map es _ => .pure es | _ => .fail "map block"
 | _ => .fail "map"
def mX(t:TypeId)(x k:Value)(ok:Bool):AP Value:=
 match P.underlying t with
 |some (.map kt et)=>match P.underlying kt with
  |some kd=>cond (nZ P kt kd k) ((pU x).bind fun es=>match dh P kd k es 0 with
   |some (some (_,v)) => .pure (cond ok (.tuple ⟨[v,.bool true]⟩) v)
   |some none=>match zeroOf P et with
    |some z => .pure (cond ok (.tuple ⟨[z,.bool false]⟩) z)
    |none => .fail "lookup"
   |none => .fail "lookup") (.fail "lookup")
  |none => .fail "lookup"
 | _ => .fail "lookup"
def ia(k v:Value):List (Value×Value×Nat)→Nat→List (Value×Value×Nat)
 | [],_=>[]
 |e::es,0=>(k,v,e.2.2)::es
 |e::es,i+1=>e::ia k v es i
def fK(t:TypeId)(x k v:Value):AP Unit:=
 match P.underlying t,x with
 |some (.map kt _),.map (some r)=>match P.underlying kt with
  |some kd=>cond (nZ P kt kd k) (.get r fun
   | .map es clk=>match dh P kd k es 0 with
    |some (some (i,_))=>cond (simpleKey kd) (.set r (.map (ia k v es i) clk) (.pure ())) (.fail "mapUpdate")
    |some none => .set r (.map (es++[(k,v,clk)]) (clk+1)) (.pure ())
    |none => .fail "mapUpdate"
   | _ => .fail "mapUpdate") (.fail "mapUpdate")
  |none => .fail "mapUpdate"
 | _,_ => .fail "mapUpdate"
def Ba(ts:List TypeId)(args:List Value):AP Value:=
 match ts,args with
 |t::_,[.map (some r),k]=>match P.underlying t with
  |some (.map kt _)=>match P.underlying kt with
   |some kd=>cond (nZ P kt kd k) (.get r fun
    | .map es clk=>match dh P kd k es 0 with
     |some (some (i,_)) => .set r (.map (es.eraseIdx i) clk) (.pure (.tuple ⟨[]⟩))
     |some none => .pure (.tuple ⟨[]⟩)
     |none => .fail "delete"
    | _ => .fail "delete") (.fail "delete")
   |none => .fail "delete"
  | _ => .fail "delete"
 | _,_ => .fail "delete"
def wJ(t:TypeId)(x:Value):AP Value:=
 match P.underlying t,x with
 |some (.map _ _),.map none => .new (.iter none 0 [] 0) fun id => .pure (.pointer (some ⟨id,0,none⟩))
 |some (.map _ _),.map (some r) => .get r fun
  | .map _ clk => .new (.iter (some r) clk [] clk) fun id => .pure (.pointer (some ⟨id,0,none⟩))
  | _ => .fail "range"
 | _,_ => .fail "range"
def CX(x:Value)(isString:Bool):AP Value:=
 match x,isString with
 | .pointer (some a),false=>cond (Nat.beq a.off 0) (.get a.block fun
  | .iter none _ _ _ => .pure (.tuple ⟨[.bool false]⟩)
  | .iter (some m) since seen last => .get m fun
   | .map es clk=>
    cond (!seen.isEmpty && !es.isEmpty&&es.all (fun e=>Nat.ble last e.2.2)) (.fail "next")
    (match es.filter (fun e => !seen.any (Nat.beq e.2.2)) with
     | [] => .pure (.tuple ⟨[.bool false]⟩)
     | [e]=>cond (Nat.blt e.2.2 since)
        (.set a.block (.iter (some m) since (seen++[e.2.2]) clk) (.pure (.tuple ⟨[.bool true,e.1,e.2.1]⟩)))
        (.fail "next")
     | _ => .fail "next")
   | _ => .fail "next"
  | _ => .fail "next") (.fail "next")
 | _,_ => .fail "next"
def wK(x:Value):AP Value:=
 match x with
 | .pointer (some a)=>cond (Nat.beq a.off 0) (.get a.block fun
  | .iter (some m) _ seen stepped=>match seen.getLast? with
   |some stamp => .get m fun
    | .map es clk=>cond (Nat.beq clk stepped) (match es.find? (fun e=>Nat.beq e.2.2 stamp) with
     |some e => .pure (.tuple ⟨[e.1,e.2.1]⟩)
     |none => .fail "entry") (.fail "entry")
    | _ => .fail "entry"
   |none => .fail "entry"
  | _ => .fail "entry") (.fail "entry")
 | _ => .fail "entry"
def oC(t:TypeId)(hint:Option Value):AP Value:=
 match hint with
 |none => .new (.map [] 0) fun id => .pure (.map (some id))
 |some v=>match P.underlying t,v with
  |some (.map _ _),.int _ _ => .new (.map [] 0) fun id => .pure (.map (some id))
  | _,_ => .fail "makeMap"
inductive aG where
 |value (v:Value)
 |skip
 |enter (f:FuncId) (args:List Value)
 |round (l:Nat) (m:Tm) (assign body:Code)
def iG(size:Nat)(x:Value):AP (Nat×List Value):=
 match x with
 | .slice none n _ => .pure (n,[])
 | .slice (some a) n _ => .get a.block fun
  | .cells c _=>match aW c a.off (n*size) with |some l => .pure (n,l) |none => .fail "cells"
  | _ => .fail "cells"
 | .string s => .pure (s.size,s.data.toList.map fun b => .int .u8 b.toNat)
 | _ => .fail "cells"
def uD(i:TypeInfo)(z:Value)(len n:Nat)(old new:List Value):AP Value:=
 cond (Nat.ble (len+n) 1048576&&Nat.ble i.bytes 65536&&Nat.beq z.cells.toList.length i.size&&Nat.beq old.length (len*i.size)&&Nat.beq new.length (n*i.size))
  (.new (.cells (PT.ofList .leaf 0 (old++new)) false) fun id => .pure (.slice (some ⟨id,0,none⟩) (len+n) (aA+i.size)))
  (.fail "append")
def lT(i:TypeInfo)(z:Value)(base:Option Addr)(len cap n:Nat)(new:List Value):AP Value:=
 cond (Nat.beq n 0&&Nat.ble len cap&&new.isEmpty) (.pure (.slice base len cap))
 (cond (Nat.ble aA cap)
  (match base with
   |some a=>cond (Nat.beq cap (aA+i.size)&&new.all bw)
    (.get a.block fun
     | .cells c false=>match aW c a.off (len*i.size) with
      |some old => .kill a.block (uD i z len n old new)
      |none => .fail "append"
     | _ => .fail "append") (.fail "append")
   |none => .fail "append")
  (cond (Nat.ble (len+n) cap)
   (match base with
    |some a => .get a.block fun
     | .cells c false=>match bN c (a.off+len*i.size) new with
      |some c' => .set a.block (.cells c' false) (.pure (.slice (some a) (len+n) cap))
      |none => .fail "append"
     | _ => .fail "append"
    |none => .fail "append")
   ((iG i.size (.slice base len cap)).bind fun p=>uD i z len n p.2 new)))
def gP(ts:List TypeId)(args:List Value):AP Value:=
 match ts,args with
 | [t,tx],[s,x]=>
  match P.underlying t,P.underlying tx,s with
  |some (.slice e),some (.int _),.slice none 0 0=>match P.info? e,zeroOf P e,x with
   |some i,some z,.int _ (.ofNat n)=>cond (Nat.blt 0 n&&Nat.blt 0 i.size) (uD i z 0 n [] (rep z.cells.toList n)) (.fail "append")
   | _,_,_ => .fail "append"
  |some (.slice _),some (.int _),_ => .fail "append"
  |some (.slice e),some _,.slice base len cap=>
   match P.info? e,zeroOf P e with
   |some i,some z=>(iG i.size x).bind fun p=>lT i z base len cap p.1 p.2
   | _,_ => .fail "append"
  | _,_,_ => .fail "append"
 | _,_ => .fail "append"
def XP(ts:List TypeId)(args:List Value):AP Value:=
 match ts,args with
 |t::_,x::_=>match P.underlying t,x with
  |some .string,.string s => .pure (.int .i64 s.size)
  |some (.array n _),_ => .pure (.int .i64 n)
  |some (.pointer arr),_=>match P.underlying arr with
   |some (.array n _) => .pure (.int .i64 n)
   | _ => .fail "len"
  |some (.slice _),.slice _ n _ => .pure (.int .i64 n)
  |some (.map _ _),x=>(pU x).bind fun es => .pure (.int .i64 es.length)
  | _,_ => .fail "len"
 | _,_ => .fail "len"
def XQ(ts:List TypeId)(args:List Value):AP Value:=
 match ts,args with
 |t::_,x::_=>match P.underlying t,x with
  |some (.array n _),_ => .pure (.int .i64 n)
  |some (.slice _),.slice _ _ n=>cond (Nat.ble aA n) (.fail "cap") (.pure (.int .i64 n))
  | _,_ => .fail "cap"
 | _,_ => .fail "cap"
def zO(ts:List TypeId)(args:List Value):AP Value:=
 match ts,args with
 |t::_,[.slice base len _,x]=>match P.underlying t with
  |some (.slice e)=>match P.info? e,base,x with
   |some i,some a,.slice (some b) n _=>
    cond (Nat.beq (min n len) 0) (.pure (.int .i64 0)) (.get b.block fun
     | .cells c _=>match aW c b.off (min n len*i.size) with
      |some l => .get a.block fun
       | .cells d false=>match bN d a.off l with
        |some d' => .set a.block (.cells d' false) (.pure (.int .i64 (min n len:Nat)))
        |none => .fail "copy"
       | _ => .fail "copy"
      |none => .fail "copy"
     | _ => .fail "copy")
   |some _,none,.slice _ _ _=>cond (Nat.beq len 0) (.pure (.int .i64 0)) (.fail "copy")
   |some _,some _,.slice none n _ => .pure (.int .i64 (min n len:Nat))
   | _,_,_ => .fail "copy"
  | _ => .fail "copy"
 | _,_ => .fail "copy"
def FF(ts:List TypeId)(args:List Value):AP Value:=
 match ts,args with
 |t::_,.slice none _ _::_=>match P.underlying t with |some _ => .pure (.tuple ⟨[]⟩) |none => .fail "clear"
 |t::_,.slice (some a) k _::_=>match P.underlying t with
  |some (.slice e)=>cond (Nat.beq k 0) (.pure (.tuple ⟨[]⟩)) (match P.info? e,zeroOf P e with
   |some _,some z=>cond (Nat.blt 0 z.cells.toList.length) (.get a.block fun
    | .cells c false=>match bN c a.off (rep z.cells.toList k) with
     |some c' => .set a.block (.cells c' false) (.pure (.tuple ⟨[]⟩))
     |none => .fail "clear"
    | _ => .fail "clear") (.fail "clear")
   | _,_ => .fail "clear")
  | _ => .fail "clear"
 | _,_ => .fail "clear"
def tO(mx:Bool):Value→List Value→Option Value
 |v,[]=>some v
 | .int k x,.int _ y::r=>tO mx (.int k (cond mx (if y>x then y else x) (if y<x then y else x))) r
 | _,_=>none
def lU(t:TypeId):Value ⊕ Addr→AP Value
 | .inl v => .pure v
 | .inr a=>fG P t (.pointer (some a))
def mY:List FieldStep→TypeId→Value ⊕ Addr→AP (TypeId×(Value ⊕ Addr))
 | [],t,x => .pure (t,x)
 |s::rest,t,x=>
  match P.underlying s.struct with
  |some (.struct fs)=>match fs.toList[s.index]? with
   |some f=>match P.info? f.type with
    |some i=>cond (Nat.beq i.size 0) (.fail "follow")
      (cond s.deref
       ((lU P t x).bind fun
        | .pointer (some a)=>mY rest f.type (.inr (kH a f.offset))
        | _ => .fail "follow")
       (match x with
        | .inr a=>mY rest f.type (.inr (kH a f.offset))
        | .inl (.agg cs)=>match k_ P f.type cs.toList f.offset with
         |some v=>mY rest f.type (.inl v)
         |none => .fail "follow"
        | _ => .fail "follow"))
    |none => .fail "follow"
   |none => .fail "follow"
  | _ => .fail "follow"
def pW(xt:TypeId)(x:Value ⊕ Addr)(ptr:Bool):AP Value:=
 match P.underlying xt,ptr,x with
 |some (.pointer _),true,x=>lU P xt x
 |some (.pointer e),false,x=>(lU P xt x).bind fun
  | .pointer (some a)=>fG P e (.pointer (some a))
  | _ => .fail "receiver"
 |some _,true,.inr a => .pure (.pointer (some a))
 |some _,false,x=>lU P xt x
 | _,_,_ => .fail "receiver"
def vP:Nat→TypeId→Value→String→AP (FuncId×Value)
 |0,_,_,_ => .fail "method"
 |d+1,t,v,name=>match P.info? t with
  |some i=>match i.methods.toList.find? (fun m=>m.name==name) with
   |some m=>(mY P m.path.toList t (.inl v)).bind fun (xt,x)=>match m.func with
    |some (f,ptr)=>(pW P xt x ptr).bind fun r => .pure (f,r)
    |none=>(lU P xt x).bind fun
     | .iface t' v'=>vP d t' v' name
     | _ => .fail "method"
   |none => .fail "method"
  |none => .fail "method"
inductive Atomic where
 |load |store |swap |cas |add
def gy:Atomic→String
 | .load => "sync/atomic.LoadUint64"
 | .store => "sync/atomic.StoreUint64"
 | .swap => "sync/atomic.SwapUint64"
 | .cas => "sync/atomic.CompareAndSwapUint64"
 | .add => "sync/atomic.AddUint64"
def CY(fn:Func):Option Atomic:=
 [Atomic.load,.store,.swap,.cas,.add].find? fun k=>fn.name==gy k&&(fn.origin==gy k||fn.origin == "")
def gZ(c:PT Value)(a:Addr):Option Int:=
 match c.get a.off with
 |some (.int .u64 n)=>some n
 | _=>none
def Bb(k:Atomic)(args:List Value):AP Value:=
 match k,args with
 | .load,[.pointer (some a)] => .get a.block fun
  | .cells c _=>match gZ c a with |some n => .pure (.int .u64 n) |none => .fail "atomic"
  | _ => .fail "atomic"
 | .store,[.pointer (some a),.int .u64 v] => .get a.block fun
  | .cells c false=>match gZ c a with |some _ => .set a.block (.cells (c.set a.off (some (.int .u64 v))) false) (.pure (.tuple ⟨[]⟩)) |none => .fail "atomic"
  | _ => .fail "atomic"
 | .swap,[.pointer (some a),.int .u64 v] => .get a.block fun
  | .cells c false=>match gZ c a with |some n => .set a.block (.cells (c.set a.off (some (.int .u64 v))) false) (.pure (.int .u64 n)) |none => .fail "atomic"
  | _ => .fail "atomic"
 | .cas,[.pointer (some a),.int .u64 o,.int .u64 v] => .get a.block fun
  | .cells c false=>match gZ c a with
   |some n=>cond (n==o) (.set a.block (.cells (c.set a.off (some (.int .u64 v))) false) (.pure (.bool true))) (.pure (.bool false))
   |none => .fail "atomic"
  | _ => .fail "atomic"
 | .add,[.pointer (some a),.int .u64 v] => .get a.block fun
  | .cells c false=>match gZ c a with
   |some n => .set a.block (.cells (c.set a.off (some (.int .u64 (IntKind.u64.wrap (n+v))))) false) (.pure (.int .u64 (IntKind.u64.wrap (n+v))))
   |none => .fail "atomic"
  | _ => .fail "atomic"
 | _,_ => .fail "atomic operands"
def ah(f:FuncId)(args:List Value):AP aG:=
 match P.funcs[f]? with
 |some fn=>cond (fn.name == "runtime.NumGoroutine") (.fail "call NumGoroutine") (cond fn.body.isSome (.pure (.enter f args))
   (match CY fn with
    |some k=>(Bb k args).bind fun v => .pure (.value v)
    |none => .fail "call no body"))
 |none => .fail "call no function"
def gB(recv:Value)(name:String)(args:List Value):AP aG:=
 match recv with
 | .iface t v=>(vP P 6 t v name).bind fun (f,r)=>ah P f (r::args)
 | _ => .fail "invoke nil"
def j7(fn:Fn)(captured args:List Value):AP aG:=
 match fn with
 | .func f=>ah P f (args++captured)
 | .method name=>match args with
  |r::rest=>gB P r name rest
  | [] => .fail "call receiver"
 | .methodOf t name=>match args with
  |r::rest=>match P.underlying t with
   |some (.interface _)=>gB P r name rest
   |some _=>gB P (.iface t r) name rest
   |none => .fail "methodOf"
  | [] => .fail "call receiver"
 | .via t path f ptr=>match args with
  |x::rest=>(mY P path.toList t (.inl x)).bind fun (xt,y)=>(pW P xt y ptr).bind fun r=>ah P f (r::rest)
  | [] => .fail "call receiver"
 | .yield l => .get l fun
  | .loop _ _ tm ps as bd=>match iy ps args tm with
   |some m => .pure (.round l { m with fF:=[] } as bd)
   |none => .fail "yield arguments"
  | _ => .fail "yield loop"
def oD(b:Builtin)(ts:List TypeId)(args:List Value):AP Value:=
 match b with
 | .append=>gP P ts args
 | .len=>XP P ts args
 | .cap=>XQ P ts args
 | .copy=>zO P ts args
 | .delete=>Ba P ts args
 | .clear=>FF P ts args
 | .min=>match args with |x::r => .opt "min" (tO false x r) .pure | [] => .fail "min"
 | .max=>match args with |x::r => .opt "max" (tO true x r) .pure | [] => .fail "max"
 | _ => .fail "builtin"
def rU(ρ:Operand→Value)(c:Call):AP aG:=
 match c.callee with
 | .builtin b=>(oD P b c.argTypes.toList (c.args.toList.map ρ)).bind fun v => .pure (.value v)
 | .invoke recv name=>gB P (ρ recv) name (c.args.toList.map ρ)
 | .value f=>match ρ f with
  | .func fn first captured=>j7 P fn captured.toList (first.toList++c.args.toList.map ρ)
  | _ => .fail "call nil function"
def k7(ρ:Operand→Value)(o:Oper):AP aG:=
 let v (s:AP Value):AP aG:=s.bind fun x => .pure (.value x)
 let u (s:AP Unit):AP aG:=s.bind fun _ => .pure .skip
 match o.op with
 | .move x | .assign x => .pure (.value (ρ x))
 | .pick c a b=>match ρ c with | .bool t => .pure (.value (cond t (ρ a) (ρ b))) | _ => .fail "pick"
 | .alloc e=>v (qN P e)
 | .box _ x=>v (newRow (ρ x).cells.toList)
 | .build t ps=>v (qO P t (ps.toList.map fun p=>(p.1,ρ p.2)))
 | .buildSlice t n ps=>v (gu P t n (ps.toList.map fun p=>(p.1,ρ p.2)))
 | .load t a=>v (fG P t (ρ a))
 | .store t a x=>u (mW P t (ρ a) (ρ x))
 | .nilCheck x=>v (kr (ρ x))
 | .binOp op t x y _=>v (eE P op t (isConst x) (isConst y) (ρ x) (ρ y))
 | .unOp op _ x=>v (.opt "unOp" (oz op (ρ x)) .pure)
 | .convert s d x=>v (kG P s d (ρ x))
 | .makeInterface t x=>v (dX P t (ρ x))
 | .makeFunc fn first captured=>cond (j6 fn) (.pure (.value (.func fn ⟨first.toList.map ρ⟩ ⟨captured.toList.map ρ⟩))) (.fail "makeFunc")
 | .range t x=>v (wJ P t (ρ x))
 | .next x b=>v (CX (ρ x) b)
 | .entry x=>v (wK (ρ x))
 | .makeMap t r=>v (oC P t (r.map ρ))
 | .makeSlice t l c=>v (iF P t (ρ l) (ρ c))
 | .slice t x lo hi mx=>v (qQ P t (ρ x) (lo.map ρ) (hi.map ρ) (mx.map ρ))
 | .fieldAddr s x f=>v (gx P s (ρ x) f)
 | .field t x f=>v (qP P t (ρ x) f)
 | .indexAddr t x i=>v (eY P t (ρ x) (ρ i))
 | .index t x i=>v (oA P t (ρ x) (ρ i))
 | .lookup t x i ok=>v (mX P t (ρ x) (ρ i) ok)
 | .mapUpdate t m k x | .insert t m k x=>u (fK P t (ρ m) (ρ k) (ρ x))
 | .typeAssert x _ t ok=>v (jK P (ρ x) t ok)
 | .extract x i=>v (jL (ρ x) i)
 | .call c=>rU P ρ c
 | _ => .fail "operation"
end Go.Am
