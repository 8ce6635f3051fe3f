/-
  The abstract machine, for proofs with variables: rows as wholes in summaries; what is beyond the heap's end; looks within regions that draw.
-/
import Derived.Test.YtofmbmclopgldaaGreatAmY3
import Derived.KernelRfl
set_option linter.unusedSimpArgs false
set_option linter.unusedVariables false
namespace Go.Am
theorem sS {h h':PT ak} {i:Nat} {b:Option ak} (e:h.set i b=h'):h'.get i=b:=by subst e;exact bC
def bL (h:PT ak) (n:Nat):Prop:=∀ i,n≤i→h.get i=none
theorem bL.lt {h:PT ak} {n:Nat} (hw:bL h n) {i:Nat} {B:ak} (e:h.get i=some B):i<n:=by
 rcases Nat.lt_or_ge i n with q |q
 ·exact q
 ·rw[hw i q] at e;simp at e
theorem bL.of_lt {h:PT ak} {n:Nat} (hlt:∀ i B,h.get i=some B→i<n):bL h n:=by
 intro i hi
 cases e:h.get i with
 |none=>rfl
 |some B=>have:=hlt i B e;omega
theorem bL.set {h:PT ak} {n m i:Nat} {b:Option ak} (hw:bL h n) (hn:n≤m) (hi:i<m):bL (h.set i b) m:=by
 intro j hj
 rw[PT.bO _ _ (by omega)]
 exact hw j (by omega)
theorem bL.set' {h:PT ak} {m i:Nat} {b:Option ak} (hi:i<m) (hw:bL h m):bL (h.set i b) m:=hw.set (Nat.le_refl _) hi
theorem bL.mono {h:PT ak} {n m:Nat} (hw:bL h n) (hn:n≤m):bL h m:=fun i hi=>hw i (Nat.le_trans hn hi)
theorem Kept.trans {a b c:PT ak} (h:Kept a b) (k:Kept b c):Kept a c:=fun i B e=>k i B (h i B e)
theorem bL.kept {h:PT ak} {n j:Nat} {b:Option ak} (hw:bL h n) (hj:n≤j):Kept h (h.set j b):=fun i B e=>by
 have:=hw.lt e
 rw[PT.bO _ _ (by omega)];exact e
theorem Kept.set' {h0 h:PT ak} {N j:Nat} {b:Option ak} (hw:bL h0 N) (hj:N≤j) (hk:Kept h0 h):Kept h0 (h.set j b):=Kept.set (fun i B e=>hw.lt e) hj hk
theorem cW.wf {P:Program} {O:Over} {f:FuncId} {args:List Value} {h:PT ak} {n:Nat} {R:Value→PT ak→Nat→Prop} (e:cW P O f args h n R) (hw:bL h n):cW P O f args h n fun v h' n'=>R v h' n'∧n≤n'∧bL h' n':=by
 obtain⟨k,v,h',n',e,hR⟩:=e
 obtain⟨p,_⟩:=xP (pH (P:=P) (O:=O) k) f args h n [] [] v (S0 h' n') e (Nat.zero_le _) hw
 exact⟨k,v,h',n',e,hR,p.next,p.wf⟩
theorem ofList_inj {L L':List Value} (h:PT.ofList .leaf 0 L=PT.ofList .leaf 0 L'):L=L':=by
 apply List.ext_getElem?
 intro i
 rw[←PT.aI L i,←PT.aI L' i,h]
noncomputable def rowOf (c:PT Value):Option (List Value):=
 match Classical.propDecidable (∃ L,c=PT.ofList .leaf 0 L) with
 | .isTrue h=>some (Classical.choose h)
 | .isFalse _=>none
theorem DE (L:List Value):rowOf (PT.ofList .leaf 0 L)=some L:=by
 have h:∃ L',PT.ofList .leaf 0 L=PT.ofList .leaf 0 L':=⟨L,rfl⟩
 unfold rowOf
 split
 ·rename_i h' _
  rw[←ofList_inj (Classical.choose_spec h')]
 ·rename_i h' _;exact absurd h h'
theorem sU {c:PT Value} {L:List Value} (h:rowOf c=some L):c=PT.ofList .leaf 0 L:=by
 unfold rowOf at h
 split at h
 ·rename_i hc _
  obtain rfl:=Option.some.inj h
  exact Classical.choose_spec hc
 ·simp at h
noncomputable def ur {α:Type} (k:List Value→Bool→AP α):ak→AP α
 | .cells c ro=>match rowOf c with
  |some L=>k L ro
  |none => .fail ""
 | _ => .fail ""
@[go_sem] theorem Gn {α:Type} {k:List Value→Bool→AP α} {L:List Value} {ro:Bool}:ur k (.cells (PT.ofList .leaf 0 L) ro)=k L ro:=by simp only[ur,DE]
noncomputable def AP.row {α:Type} (id:Nat) (k:List Value→Bool→AP α):AP α := .get id (ur k)
@[go_sem] theorem row_eq {α:Type} {id:Nat} {k:List Value→Bool→AP α}:AP.row id k = .get id (ur k):=rfl
def AP.setRow {α:Type} (id:Nat) (L:List Value) (k:AP α):AP α := .set id (.cells (PT.ofList .leaf 0 L) false) k
@[go_sem] theorem Rp {α:Type} {id:Nat} {L:List Value} {k:AP α}:AP.setRow id L k = .set id (.cells (PT.ofList .leaf 0 L) false) k:=rfl
def AP.newRow {α:Type} (L:List Value) (k:Nat→AP α):AP α := .new (.cells (PT.ofList .leaf 0 L) false) k
@[go_sem] theorem Rq {α:Type} {L:List Value} {k:Nat→AP α}:AP.newRow L k = .new (.cells (PT.ofList .leaf 0 L) false) k:=rfl
theorem AY {α:Type} {k:List Value→Bool→AP α} (hk:∀ L ro,Reads (k L ro)) (b:ak):Reads (ur k b):=by
 unfold ur
 split
 ·split
  ·exact hk _ _
  ·exact .fail _
 ·exact .fail _
theorem cQ {α:Type} {id:Nat} {k:List Value→Bool→AP α} (hk:∀ L ro,Reads (k L ro)):Reads (AP.row id k) := .get _ _ (AY hk)
theorem bV {α:Type} {h:PT ak} {id:Nat} {k:List Value→Bool→AP α} {a:α} (e:(AP.row id k).look h=some a):∃ L ro,h.get id=some (.cells (PT.ofList .leaf 0 L) ro)∧(k L ro).look h=some a:=by
 simp only[AP.row,AP.look] at e
 cases hb:h.get id with
 |none=>rw[hb] at e;simp at e
 |some b=>
  rw[hb] at e
  cases b with
  |cells c ro=>
   simp only[ur] at e
   cases hc:rowOf c with
   |none=>rw[hc] at e;simp[AP.look] at e
   |some L=>rw[hc] at e;rw[sU hc];exact⟨L,ro,rfl,e⟩
  | _=>simp[ur,AP.look] at e
theorem kE {h:PT ak} {n:Nat} {id:Nat} {k:List Value→Bool→AP Value} {v:Value} {s':HS} (e:(AP.row id k).run 0 (S0 h n) = .ok v s'):∃ L ro,h.get id=some (.cells (PT.ofList .leaf 0 L) ro)∧(k L ro).run 0 (S0 h n) = .ok v s':=by
 simp only[AP.row,AP.run,show (S0 h n).heap=h from rfl] at e
 cases hb:h.get id with
 |none=>rw[hb] at e;simp at e
 |some b=>
  rw[hb] at e
  simp only[show Nat.blt id 0=false from rfl,cond_false] at e
  cases b with
  |cells c ro=>
   simp only[ur] at e
   cases hc:rowOf c with
   |none=>rw[hc] at e;simp[AP.run] at e
   |some L=>rw[hc] at e;rw[sU hc];exact⟨L,ro,rfl,e⟩
  | _=>simp[ur,AP.run] at e
theorem Gp {α:Type} {h:PT ak} {id:Nat} {k:ak→AP α}:(AP.get id k).look h=match h.get id with |some b=>(k b).look h |none=>none:=by
 rw[AP.look];cases h.get id<;>rfl
@[go_sem] theorem aC {α:Type} {h:PT ak} {a:α}:(AP.pure a).look h=some a:=by rw[AP.look]
theorem eR {α:Type} {h:PT ak} {b:Bool} {p:AP α} {w:String} {a:α} (e:(cond b p (.fail w)).look h=some a):b=true∧p.look h=some a:=by
 cases b with
 |false=>simp[AP.look] at e
 |true=>exact⟨rfl,e⟩
theorem aG {α β:Type} {h:PT ak} {p:AP α} {f:α→AP β} {b:β} (e:(p.bind f).look h=some b):∃ a,p.look h=some a∧(f a).look h=some b:=by
 rw[mT] at e
 cases hp:p.look h with
 |none=>rw[hp] at e;simp at e
 |some a=>rw[hp] at e;exact⟨a,rfl,e⟩
theorem bQ.set {I:Nat→Nat→Prop} {Old:Value→Prop}:∀ {l l':List Value} (i:Nat) {v v':Value},bQ I Old l l'→gu I Old v v'→bQ I Old (l.set i v) (l'.set i v')
 | _,_,i,_,_,.nil,_ => .nil
 | _,_,0,_,_,.cons _ _ _ _ _ t,h => .cons _ _ _ _ h t
 | _,_,i+1,_,_,.cons _ _ _ _ h' t,h => .cons _ _ _ _ h' (t.set i h)
theorem pN {σ:Nat→Nat} {n n1 i:Nat} (h: ¬ (n≤i∧i<n1)):sg σ n n1 i=i:=if_neg h
theorem sV {σ:Nat→Nat} {n n1 i:Nat} (h:n≤i∧i<n1):sg σ n n1 i=σ i:=if_pos h
theorem run_set {id:Nat} {b:ak} {p:AP Value} {h:PT ak} {n:Nat} {v:Value} {s':HS} (e:(AP.set id b p).run 0 (S0 h n) = .ok v s'):p.run 0 (S0 (h.set id (some b)) n) = .ok v s':=by
 simp only[AP.run] at e
 split at e
 ·simp at e
 ·exact e
theorem yB {id:Nat} {p:AP Value} {h:PT ak} {n:Nat} {v:Value} {s':HS} (e:(AP.kill id p).run 0 (S0 h n) = .ok v s'):p.run 0 (S0 (h.set id none) n) = .ok v s':=by
 simp only[AP.run] at e
 split at e
 ·simp at e
 ·exact e
theorem oL {b:ak} {p:Nat→AP Value} {h:PT ak} {n:Nat} {v:Value} {s':HS} (e:(AP.new b p).run 0 (S0 h n) = .ok v s'):(p n).run 0 (S0 (h.set n (some b)) (n+1)) = .ok v s':=e
theorem sW {w:String} {h:PT ak} {n:Nat} {v:Value} {s':HS} (e:(AP.fail w:AP Value).run 0 (S0 h n) = .ok v s'):False:=by simp[AP.run] at e
def bB (k:IntKind) (h:PT ak) (lo:Nat) (s:Value) (xs:List Int):Prop:=
 (s = .slice none 0 0∧xs=[])∨∃ b,s = .slice (some ⟨b,0,none⟩) xs.length (aB+1)∧lo≤b∧h.get b=some (.cells (PT.ofList .leaf 0 (xs.map (.int k))) false)
theorem bB.kF {k:IntKind} {h:PT ak} {lo:Nat} {s:Value} {xs:List Int} (hs:bB k h lo s xs):aW k h s xs:=by
 rcases hs with hs | ⟨b,e,_,hb⟩
 ·exact .inl hs
 ·refine .inr ⟨b,0,none,_,_,_,e,hb,?_,?_⟩
  ·simp[jT]
  ·rw[List.drop_zero];exact nC
theorem bB.set {k:IntKind} {h:PT ak} {lo j:Nat} {s:Value} {xs:List Int} {B:Option ak} (hs:bB k h lo s xs) (hj:∀ b c,s = .slice (some ⟨b,0,none⟩) xs.length c→j≠b):bB k (h.set j B) lo s xs:=by
 rcases hs with hs | ⟨b,e,hl,hb⟩
 ·exact .inl hs
 ·exact .inr ⟨b,e,hl,by rw[PT.bO _ _ (hj b _ e)];exact hb⟩
theorem bB.low {k:IntKind} {h:PT ak} {lo j:Nat} {s:Value} {xs:List Int} {B:Option ak} (hs:bB k h lo s xs) (hj:j<lo):bB k (h.set j B) lo s xs:=by
 rcases hs with hs | ⟨b,e,hl,hb⟩
 ·exact .inl hs
 ·exact .inr ⟨b,e,hl,by rw[PT.bO _ _ (by omega)];exact hb⟩
theorem bB.fresh {k:IntKind} {h:PT ak} {lo n j:Nat} {s:Value} {xs:List Int} {B:Option ak} (hs:bB k h lo s xs) (hW:bL h n) (hj:n≤j):bB k (h.set j B) lo s xs:=by
 rcases hs with hs | ⟨b,e,hl,hb⟩
 ·exact .inl hs
 ·have:=hW.lt hb
  exact .inr ⟨b,e,hl,by rw[PT.bO _ _ (by omega)];exact hb⟩
def AP.ids {α:Type} (h:PT ak):AP α→List Nat→List Nat
 | .get id k,l=>match h.get id with
  |some b=>(k b).ids h (id::l)
  |none=>l
 | _,l=>l
theorem uU {α:Type} {h:PT ak} {n:Nat} {wr:List Nat}:∀ {p:AP α} {a:α} {rd:List Nat},p.look h=some a→p.note ⟨h,n,rd,wr⟩ = .ok a ⟨h,n,p.ids h rd,wr⟩
 | .pure b,a,rd,e=>by simp only[AP.look,Option.some.injEq] at e;subst e;rfl
 | .fail w,a,rd,e=>by simp[AP.look] at e
 | .set ..,a,rd,e=>by simp[AP.look] at e
 | .kill ..,a,rd,e=>by simp[AP.look] at e
 | .new ..,a,rd,e=>by simp[AP.look] at e
 | .get id k,a,rd,e=>by
  simp only[AP.look] at e
  simp only[AP.note,AP.ids]
  cases hb:h.get id with
  |none=>rw[hb] at e;simp at e
  |some b=>rw[hb] at e;exact uU e
theorem lV {α:Type} {p:AP α} {a:α} {h0 h:PT ak} (hs:p.look h0=some a) {z:Zx} {L:List (Nat×Nat)} {f:α→AP aD} {d:Option Nat} {ops r:List Oper} {K:List KF} {m:Tm} {n lo:Nat} {rd wr:List Nat} {fs:List bD} (hk:Kept h0 h):
  lS z L (p.bind f) d ops r K m h n lo rd wr fs↔lS z L (f a) d ops r K m h n lo (p.ids h rd) wr fs:=by
 unfold lS
 simp only[iR,uU (n:=n) (wr:=wr) (rd:=rd) (mS hk hs),aM]
@[go_sem] theorem Ot {a:List Nat}:meets a []=false:=by
 induction a with
 |nil=>rfl
 |cons x l ih=>simp only[AW,List.any_nil,ih,Bool.or_false]
@[go_sem] theorem Ep {a:List Nat} {n:Nat}:bw a n n=false:=by
 induction a with
 |nil=>rfl
 |cons x l ih=>
  simp only[qV,ih,Bool.or_false]
  rcases Nat.lt_or_ge x n with q |q
  ·rw[ec q];rfl
  ·rw[Du q];simp
end Go.Am
